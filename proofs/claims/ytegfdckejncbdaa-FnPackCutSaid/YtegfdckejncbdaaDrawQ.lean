/-
  The walk of the reference's l91List: drawn objects in any order. Condition: the reader's place is small.
-/
import Derived.Test.YtegfdckejncbdaaDrawP
namespace Go.Proofs.Ytegfdckejncbdaa
set_option linter.unusedVariables false
set_option linter.unusedSimpArgs false
open Go.RowKit

def smallO (o : ObjD) : Prop := o.links.length ≤ 1000 ∧ o.text.size ≤ 9

section
variable {w w' : World} {base m n lo : Nat} {E : TypeId} {v : Value} {es ds : List D} {us : List Value}
theorem GrowP.mkg {row : Option Nat} (h : Grow w base E m v n es) (hg : w.grownBy w' row) (hr : ∀ g, row = some g → g < base) (hd : OwnL w' lo ds us) (hlo : w.heap.size ≤ lo) (hbs : base ≤ w.heap.size) : GrowP w' base E m v n es ds us := by
  obtain ⟨vs, F, h1, h2, h3, h4, h5⟩ := h
  obtain ⟨G, k1, k2, k3⟩ := hd
  refine ⟨vs, F, G, h1.kept hg ?_, D.ownL.keep es F vs (fun g hg' => hg.block g (h4 g hg').2 (fun e => by have := hr g e.symm; have := (h4 g hg').1; omega)) h2, k3, List.nodup_append.2 ⟨h3, k1, fun a ha b hb' e => ?_⟩, fun g hg' => ?_, fun g hv hg' => ?_⟩
  · rcases hv : v.ownBlock with _ | k
    · exact .inl rfl
    · refine .inr (fun e => ?_)
      have := hr k e.symm
      have := (h1.lt k hv).1; omega
  · subst e; have := (h4 a ha).2; have := (k2 a hb').1; omega
  · rcases List.mem_append.1 hg' with hg' | hg'
    · exact ⟨(h4 g hg').1, Nat.lt_of_lt_of_le (h4 g hg').2 hg.size⟩
    · exact ⟨Nat.le_trans hbs (Nat.le_trans hlo (k2 g hg').1), (k2 g hg').2⟩
  · rcases List.mem_append.1 hg' with hg' | hg'
    · exact h5 g hv hg'
    · have := (h1.lt g hv).2; have := (k2 g hg').1; omega
end

/-- a row of the call's own, one element more whose parts have been made, and a block p apart from them -/
def GrowB (w : World) (base : Nat) (E : TypeId) (m : Nat) (v : Value) (n : Nat) (es ds : List D) (us : List Value) (p : Nat) : Prop :=
  ∃ vs F G, w.ownsRow base E m v n vs ∧ D.ownL w es F vs ∧ D.ownL w ds G us ∧ (F ++ G).Nodup ∧ (∀ g ∈ F ++ G, base ≤ g ∧ g < w.heap.size ∧ g ≠ p) ∧ (∀ g, v.ownBlock = some g → g ∉ F ++ G ∧ g ≠ p)
section
variable {w w' : World} {base m n lo p : Nat} {E : TypeId} {v : Value} {es ds ds' : List D} {us us' : List Value}
theorem GrowB.mk_ (h : GrowP w base E m v n es ds us) (o : Obj) : GrowB (w.alloc o) base E m v n es ds us w.heap.size := by
  obtain ⟨vs, F, G, h1, h2, h3, h4, h5, h6⟩ := h
  have hk : ∀ g ∈ F ++ G, (w.alloc o).heap[g]? = w.heap[g]? := fun g hg => Below.heap_alloc _ _ _ (h5 g hg).2
  exact ⟨vs, F, G, h1.alloc o, D.ownL.keep es F vs (fun g hg => hk g (List.mem_append_left _ hg)) h2, D.ownL.keep ds G us (fun g hg => hk g (List.mem_append_right _ hg)) h3, h4, fun g hg => ⟨(h5 g hg).1, by have := (h5 g hg).2; simp; omega, by have := (h5 g hg).2; omega⟩, fun g hv => ⟨h6 g hv, by have := (h1.lt g hv).2; omega⟩⟩
theorem GrowB.kept {row : Option Nat} (h : GrowB w base E m v n es ds us p) (hg : w.grownBy w' row) (hr : ∀ g, row = some g → g < base ∨ g = p) : GrowB w' base E m v n es ds us p := by
  obtain ⟨vs, F, G, h1, h2, h3, h4, h5, h6⟩ := h
  have hk : ∀ g ∈ F ++ G, w'.heap[g]? = w.heap[g]? := fun g hg' => hg.block g (h5 g hg').2.1 (fun e => by have h7 := hr g e.symm; have h8 := h5 g hg'; omega)
  refine ⟨vs, F, G, h1.kept hg ?_, D.ownL.keep es F vs (fun g hg' => hk g (List.mem_append_left _ hg')) h2, D.ownL.keep ds G us (fun g hg' => hk g (List.mem_append_right _ hg')) h3, h4, fun g hg' => ⟨(h5 g hg').1, Nat.lt_of_lt_of_le (h5 g hg').2.1 hg.size, (h5 g hg').2.2⟩, h6⟩
  rcases hv : v.ownBlock with _ | k
  · exact .inl rfl
  · refine .inr (fun e => ?_)
    have h7 := hr k e.symm
    have h8 := (h1.lt k hv).1
    have h9 := (h6 k hv).2; omega
theorem GrowB.set (h : GrowB w base E m v n es ds us p) (j : Nat) (u : Value) : GrowB (w.setCell ⟨p, j, none⟩ u) base E m v n es ds us p := h.kept (set_grownL w p j u) (fun g hg => by injection hg with hg; exact .inr hg.symm)
theorem GrowB.fresh (h : GrowB w base E m v n es ds us p) (hb : Below w.heap.size w w') : GrowB w' base E m v n es ds us p := h.kept (grown_none hb none) (fun _ e => by cases e)
theorem GrowB.toP (h : GrowB w base E m v n es ds us p) : GrowP w base E m v n es ds us := by
  obtain ⟨vs, F, G, h1, h2, h3, h4, h5, h6⟩ := h
  exact ⟨vs, F, G, h1, h2, h3, h4, fun g hg => ⟨(h5 g hg).1, (h5 g hg).2.1⟩, fun g hv => (h6 g hv).1⟩
theorem GrowB.row (h : GrowB w base E m v n es ds us p) : Grow w base E m v n es := by
  obtain ⟨vs, F, G, h1, h2, h3, h4, h5, h6⟩ := h
  exact ⟨vs, F, h1, h2, (List.nodup_append.1 h4).1, fun g hg => ⟨(h5 g (List.mem_append_left _ hg)).1, (h5 g (List.mem_append_left _ hg)).2.1⟩, fun g hv hg => (h6 g hv).1 (List.mem_append_left _ hg)⟩
/-- the element's parts are others now -/
theorem GrowB.part (h : GrowB w base E m v n es ds us p) (hb : Below w.heap.size w w') (hd : OwnL w' w.heap.size ds' us') (hp : p < w.heap.size) (hbs : base ≤ w.heap.size) : GrowB w' base E m v n es ds' us' p := by
  obtain ⟨vs, F, G, h1, h2, h3, h4, h5, h6⟩ := h.fresh hb
  obtain ⟨vs0, F0, G0, a1, a2, a3, a4, a5, a6⟩ := h
  obtain ⟨G', k1, k2, k3⟩ := hd
  have a2' : D.ownL w' es F0 vs0 := D.ownL.keep es F0 vs0 (fun g hg => hb.block g (a5 g (List.mem_append_left _ hg)).2.1) a2
  refine ⟨vs0, F0, G', own_below a1 hb, a2', k3, List.nodup_append.2 ⟨(List.nodup_append.1 a4).1, k1, fun a ha b hb' e => ?_⟩, fun g hg => ?_, fun g hv => ⟨fun hg => ?_, (a6 g hv).2⟩⟩
  · subst e; have := (a5 a (List.mem_append_left _ ha)).2.1; have := (k2 a hb').1; omega
  · rcases List.mem_append.1 hg with hg | hg
    · have h8 := a5 g (List.mem_append_left _ hg)
      exact ⟨h8.1, Nat.lt_of_lt_of_le h8.2.1 hb.size, h8.2.2⟩
    · have h8 := k2 g hg
      exact ⟨by omega, h8.2, by omega⟩
  · rcases List.mem_append.1 hg with hg | hg
    · exact (a6 g hv).1 (List.mem_append_left _ hg)
    · have := (a1.lt g hv).2; have := (k2 g hg).1; omega
end

/-- objects that have been drawn, and the one that is being drawn in block p -/
def ListB (w wr : World) (g K p k : Nat) (v : Value) (os : List ObjD) (o : ObjD) (B : Option Addr) (n d : Nat) : Prop :=
  GrowB wr w.heap.size 39 3 v k (os.flatMap fObject) (fObject o) [.int .i64 o.kind, .slice B n d, .string o.text] p ∧ wr.heap[p]? = some (.cells #[.int .i64 o.kind, .slice B n d, .string o.text] 39 (0, 0)) ∧ w.heap.size ≤ p ∧ DrawT w wr g K ∧ smallO o
section
variable {w wr w' : World} {g K K' p k n d b : Nat} {v : Value} {os : List ObjD} {o : ObjD} {B : Option Addr} {s : ByteArray}
theorem ListB.more (h : ListB w wr g K p k v os o B n d) (hK : K ≤ K') : ListB w wr g K' p k v os o B n d := ⟨h.1, h.2.1, h.2.2.1, h.2.2.2.1.more hK, h.2.2.2.2⟩
theorem ListB.rdr (h : ListB w wr g K p k v os o B n d) : Rdr wr g K := h.2.2.2.1.2
theorem ListB.size (h : ListB w wr g K p k v os o B n d) : w.heap.size ≤ wr.heap.size := h.2.2.2.1.1.size
theorem ListB.lt (h : ListB w wr g K p k v os o B n d) : p < wr.heap.size := hlt_of h.2.1
theorem ListB.draw (hg0 : g < w.heap.size) (h : ListB w wr g K p k v os o B n d) (h' : DrawT wr w' g K') : ListB w w' g K' p k v os o B n d := by
  obtain ⟨h1, h2, h3, h4, h5⟩ := h
  exact ⟨h1.kept h'.1 (fun q hq => by injection hq with hq; omega), (h'.1.block _ (hlt_of h2) (fun e => by injection e with e; omega)).trans h2, h3, h4.tr h', h5⟩
theorem ListB.cells (h : ListB w wr g K p k v os o B n d) : wr.cell? ⟨p, 0, none⟩ = some (.int .i64 o.kind) ∧ wr.cell? ⟨p, 1, none⟩ = some (.slice B n d) ∧ wr.cell? ⟨p, 2, none⟩ = some (.string o.text) ∧ wr.frozen? ⟨p, 0, none⟩ = false ∧ wr.frozen? ⟨p, 1, none⟩ = false ∧ wr.frozen? ⟨p, 2, none⟩ = false :=
  ⟨cell_of_row wr p 0 _ _ _ h.2.1, cell_of_row wr p 1 _ _ _ h.2.1, cell_of_row wr p 2 _ _ _ h.2.1, frozen_of_row wr p 0 _ _ h.2.1, frozen_of_row wr p 1 _ _ h.2.1, frozen_of_row wr p 2 _ _ h.2.1⟩
/-- the object has become a blob with the text t -/
theorem ListB.over (h : ListB w wr g K p k v os o B n d) (hg0 : g < w.heap.size) (t : ByteArray) (ht : t.size ≤ 9) :
    ListB w ((((wr.alloc (.cells #[] 3)).setCell ⟨p, 0, none⟩ (.int .i64 1)).setCell ⟨p, 1, none⟩ (.slice (some ⟨wr.heap.size, 0, none⟩) 0 0)).setCell ⟨p, 2, none⟩ (.string t)) g K p k v os ⟨1, [], t⟩ (some ⟨wr.heap.size, 0, none⟩) 0 0 := by
  have hlt := h.lt
  have hsz := h.size
  obtain ⟨h1, h2, h3, h4, h5⟩ := h
  have hb : Below wr.heap.size wr (wr.alloc (.cells #[] 3)) := (Below.refl _ _).alloc (Nat.le_refl _) _
  have hown : Own (wr.alloc (.cells #[] 3)) wr.heap.size (intsD []) (.slice (some ⟨wr.heap.size, 0, none⟩) 0 0) := own_ints (xs := []) (own_nil_heap (heap_alloc_new wr _) (Nat.le_refl _))
  have hd : OwnL (wr.alloc (.cells #[] 3)) wr.heap.size (fObject ⟨1, [], t⟩) [.int .i64 1, .slice (some ⟨wr.heap.size, 0, none⟩) 0 0, .string t] := OwnL.obj hown (by show t.size ≤ _; omega)
  refine ⟨(((h1.part hb hd hlt hsz).set 0 _).set 1 _).set 2 _, ?_, h3, (((h4.alloc _).setCell h3 hg0 _).setCell h3 hg0 _).setCell h3 hg0 _, by simp [smallO]; exact ht⟩
  have e0 := (hb.block p hlt).trans h2
  rw [heap_setCell_same _ p 2 _ _ _ (heap_setCell_same _ p 1 _ _ _ (heap_setCell_same _ p 0 _ _ _ e0))]
  rfl
/-- its text is another -/
theorem ListB.text (h : ListB w wr g K p k v os ⟨1, [], s⟩ (some ⟨b, 0, none⟩) 0 0) (hg0 : g < w.heap.size) (t : ByteArray) (ht : t.size ≤ 9) :
    ListB w (wr.setCell ⟨p, 2, none⟩ (.string t)) g K p k v os ⟨1, [], t⟩ (some ⟨b, 0, none⟩) 0 0 := by
  obtain ⟨⟨vs, F, G, a1, a2, a3, a4, a5, a6⟩, h2, h3, h4, h5⟩ := h
  have a3' : D.ownL wr (fObject ⟨1, [], t⟩) G [.int .i64 1, .slice (some ⟨b, 0, none⟩) 0 0, .string t] := by
    unfold fObject at a3 ⊢
    unfold D.ownL at a3 ⊢
    obtain ⟨v1, r1, F1, G1, e1, rfl, b1, b2⟩ := a3
    injection e1 with e1 e1'
    subst e1 e1'
    unfold D.ownL at b2
    obtain ⟨v2, r2, F2, G2, e2, rfl, b3, b4⟩ := b2
    injection e2 with e2 e2'
    subst e2 e2'
    unfold D.ownL at b4
    obtain ⟨v3, r3, F3, G3, e3, rfl, b5, b6⟩ := b4
    injection e3 with e3 e3'
    subst e3 e3'
    unfold D.own at b5
    obtain ⟨rfl, -, -⟩ := b5
    unfold D.ownL at b6
    obtain ⟨rfl, -⟩ := b6
    exact ⟨_, _, F1, F2 ++ ([] ++ []), rfl, rfl, b1, D.ownL.cons b3 (D.ownL.cons (D.own.str _ (by show t.size ≤ _; omega)) (D.ownL.nil _))⟩
  have hB : GrowB wr w.heap.size 39 3 v k (os.flatMap fObject) (fObject ⟨1, [], t⟩) [.int .i64 1, .slice (some ⟨b, 0, none⟩) 0 0, .string t] p := ⟨vs, F, G, a1, a2, a3', a4, a5, a6⟩
  refine ⟨hB.set 2 _, ?_, h3, h4.setCell h3 hg0 _, by simp [smallO]; exact ht⟩
  rw [heap_setCell_same _ p 2 _ _ _ h2]
  rfl
theorem ListB.over2 (h : ListB w wr g K p k v os o B n d) (hg0 : g < w.heap.size) (t : ByteArray) (ht : t.size ≤ 9) :
    ListB w ((((wr.setCell ⟨p, 0, none⟩ (.int .i64 1)).setCell ⟨p, 1, none⟩ (.slice (some ⟨wr.heap.size, 0, none⟩) 0 0)).setCell ⟨p, 2, none⟩ (.string t)).alloc (.cells #[] 3)) g K p k v os ⟨1, [], t⟩ (some ⟨wr.heap.size, 0, none⟩) 0 0 := by
  have hlt := h.lt
  have h2 := h.over hg0 t ht
  rw [World.setCell_alloc_past _ _ _ _ hlt, World.setCell_alloc_past _ _ _ _ (by simpa using hlt), World.setCell_alloc_past _ _ _ _ (by simpa using hlt)] at h2
  exact h2
theorem ListB.text2 {o' : Obj} (h : ListB w (wr.alloc o') g K p k v os ⟨1, [], s⟩ (some ⟨b, 0, none⟩) 0 0) (hp : p < wr.heap.size) (hg0 : g < w.heap.size) (t : ByteArray) (ht : t.size ≤ 9) :
    ListB w ((wr.setCell ⟨p, 2, none⟩ (.string t)).alloc o') g K p k v os ⟨1, [], t⟩ (some ⟨b, 0, none⟩) 0 0 := by
  have h2 := h.text hg0 t ht
  rw [World.setCell_alloc_past _ _ _ _ hp] at h2
  exact h2
end

/-- what is left behind the draw of objects -/
def DrawnOs (w w' : World) (g K : Nat) (e : Ending) : Prop :=
  ∃ (os : List ObjD) (B : Option Addr) (n d : Nat), Own w' w.heap.size (dObjects os) (.slice B n d) ∧ n = os.length ∧ n ≤ 17 ∧ (∀ o ∈ os, smallO o) ∧ DrawT w w' g K ∧ e = .returned (.slice B n d)

set_option maxHeartbeats 6400000 in
set_option maxRecDepth 100000 in
theorem l91List_any (g K : Nat) (w : World) (hK : K ≤ 100000) (h : Rdr w g K) :
    Calls Try.prog 53 #[.pointer (some ⟨g, 0, none⟩)] w fun e w' => DrawnOs w w' g (K + 5000) e := by
  have hg0 := h.lt
  have HG0 : Hid (Grow (w.alloc (.cells #[] 39)) w.heap.size 39 3 (.slice (some ⟨w.heap.size, 0, none⟩) 0 0) 0 []) := Grow.nil (own_nil_heap (heap_alloc_new w _) (Nat.le_refl _))
  have HR0 := Lib.hid ((DrawT.refl h).alloc (.cells #[] 39))
  clear h
  go_enter Try.func53, Try.ntmps53
  go_wp2_with fail
  refine (pick_any g K 6 _ (by omega) HR0.out.2).mono ?_
  rintro e w1 ⟨r1, hr1, hR1, hg1, -, rfl⟩
  have HD1 := Lib.hid (HR0.out.step hg1 hR1)
  have HG1 := Lib.hid (HG0.out.grown hg1 (fun q hq => by injection hq with hq; omega))
  obtain ⟨q1, rfl⟩ := Int.eq_ofNat_of_zero_le hr1.1
  have hq1 := hr1.2 (by omega)
  clear hR1 hg1 hr1 HR0 HG0
  go_upto_if 12 with (go_at_call 54; refine (pick_any g (K + 1) 20 _ (by omega) HD1.out.2).mono ?_; rintro e w2 ⟨r2, -, hR2, hg2, -, rfl⟩; have HD2 := Lib.hid (HD1.out.step hg2 hR2); have HG2 := Lib.hid (HG1.out.grown hg2 (fun q hq => by injection hq with hq; omega)); clear hR2 hg2 HD1 HG1)
  go_cut [4] (fun v wx => ∃ q : Nat, q ≤ 17 ∧ v = .int .i64 q ∧ DrawT w wx g (K + 3) ∧ Grow wx w.heap.size 39 3 (.slice (some ⟨w.heap.size, 0, none⟩) 0 0) 0 [])
  case first =>
    by_cases h0 : r2 = 0
    · have hd : (r2 == 0) = true := by simp [h0]
      clear h0
      go_wp2_with fail
      refine (pick_any g (K + 2) 2 _ (by omega) HD2.out.2).mono ?_
      rintro e w3 ⟨r3, hr3, hR3, hg3, -, rfl⟩
      have HD3 := Lib.hid (HD2.out.step hg3 hR3)
      have HG3 := Lib.hid (HG2.out.grown hg3 (fun q hq => by injection hq with hq; omega))
      obtain ⟨q3, rfl⟩ := Int.eq_ofNat_of_zero_le hr3.1
      have hq3 := hr3.2 (by omega)
      clear hR3 hg3 hr3
      go_wp2_with fail
      go_meet
      exact ⟨16 + q3, by omega, by go_num, HD3.out.more (by omega), HG3.out⟩
    · have hd : (r2 == 0) = false := by simp [h0]
      clear h0
      go_wp2_with fail
      go_meet
      exact ⟨q1, by omega, rfl, HD2.out.more (by omega), HG2.out⟩
  case rest =>
    clear HD2 HG2
    obtain ⟨q, hq, rfl, hD, hG⟩ := hcut
    have HD := Lib.hid hD
    have HG := Lib.hid hG
    clear hD hG
    go_wp2_with fail
    go_loopw [3, 5] (fun v i wr => ∃ (k : Nat) (os : List ObjD), k ≤ q ∧ i = .int .i64 k ∧ Hid (os.length = k) ∧ Hid (∀ o ∈ os, smallO o) ∧ Grow wr w.heap.size 39 3 v k (os.flatMap fObject) ∧ DrawT w wr g (K + 3 + 200 * k)) (fun _ i _ => q - (intOf i).toNat)
    case atStart => exact ⟨0, [], Nat.zero_le _, rfl, rfl, (fun _ h => (by cases h)), HG.out, HD.out⟩
    case round =>
      obtain ⟨k, os, hk, rfl, HL, HS, hgr, hdr⟩ := hrel
      clear HD HG
      obtain ⟨A3, c3, rfl, hc31, hc32, -⟩ := Rd.of_own hgr.choose_spec.choose_spec.1
      unfold maxLen at hc32
      have HGR := Lib.hid hgr
      have HDR := Lib.hid hdr
      have hws := hdr.1.size
      clear hgr hdr
      by_cases hlt : k < q
      · go_wp2_with fail
        refine (l91Object_any g (K + 3 + 200 * k) _ 3 3 [5, 60, 700] _ wr.heap.size (wr.heap.size + 1) (by omega) (by simp) (by omega) (by omega) (HDR.out.alloc _).2 ⟨rfl, rd_newn rfl [.int .i64 5, .int .i64 60, .int .i64 700] 3⟩).mono ?_
        rintro e w4 ⟨kind, links, t, B, n, d, hown4, hn4, hnl, ht4, hD4, rfl⟩
        have hll : links.length ≤ 1000 := by omega
        clear hn4
        have HNL := Lib.hid hnl
        clear hnl
        have HP4 : Hid (GrowP w4 w.heap.size 39 3 (.slice A3 k c3) k (os.flatMap fObject) (fObject ⟨kind, links, t⟩) [.int .i64 kind, .slice B n d, .string t]) :=
          GrowP.mkg (HGR.out.fresh ((Below.refl _ _).alloc (Nat.le_refl _) _)) hD4.1 (fun q hq => by injection hq with hq; omega) hown4 (Nat.le_refl _) (by simp; omega)
        have HDT4 := Lib.hid ((HDR.out.alloc _).tr hD4)
        have hws4 := HDT4.out.1.size
        have HB4 : Hid (ListB w (w4.alloc (.cells #[.int .i64 kind, .slice B n d, .string t] 39)) g (K + 3 + 200 * k + 100) w4.heap.size k (.slice A3 k c3) os ⟨kind, links, t⟩ B n d) :=
          ⟨GrowB.mk_ HP4.out _, heap_alloc_new w4 _, hws4, HDT4.out.alloc _, ⟨hll, ht4⟩⟩
        clear hown4 hD4 HP4 HDT4
        go_upto_region 9 with (fail)
        obtain ⟨p, hp⟩ : ∃ p, p = w4.heap.size := ⟨_, rfl⟩
        obtain ⟨w5, hw5⟩ : ∃ w5, w5 = w4.alloc (.cells #[.int .i64 kind, .slice B n d, .string t] 39) := ⟨_, rfl⟩
        have HB5 : Hid (ListB w w5 g (K + 3 + 200 * k + 100) p k (.slice A3 k c3) os ⟨kind, links, t⟩ B n d) := by rw [hw5, hp]; exact HB4
        rw [← hw5, ← hp]
        clear HB4 hw5 hp
        go_cut [30] (fun b wx => (∃ x, b = .bool x ∧ (x = true → 0 < k)) ∧ ListB w wx g (K + 3 + 200 * k + 101) p k (.slice A3 k c3) os ⟨kind, links, t⟩ B n d)
        case first =>
          by_cases hk0 : k = 0
          · subst hk0
            go_wp2_with fail
            go_meet
            exact ⟨⟨false, by simp, by simp⟩, HB5.out.more (by omega)⟩
          · have hk1 : 0 < k := by omega
            have hk1i : (0 : Int) < k := by omega
            clear hk0
            go_wp2_with fail
            refine (pick_any g (K + 3 + 200 * k + 100) 2 _ (by omega) HB5.out.rdr).mono ?_
            rintro e w6 ⟨r6, -, hR6, hg6, -, rfl⟩
            have HB6 := Lib.hid (HB5.out.draw hg0 ⟨hg6, hR6⟩)
            clear hR6 hg6
            go_wp2_with fail
            go_meet
            exact ⟨⟨_, rfl, fun _ => hk1⟩, HB6.out.more (by omega)⟩
        case rest =>
          clear HB5
          obtain ⟨⟨x, rfl, hx⟩, hB⟩ := hcut
          obtain ⟨w7, hw7⟩ : ∃ w7, w7 = wc := ⟨_, rfl⟩
          subst hw7
          have HB7 := Lib.hid hB
          clear hB
          go_upto_if 30 with (fail)
          go_cut [6] (fun v wx => v = .pointer (some ⟨p, 0, none⟩) ∧ ∃ (o : ObjD) (B : Option Addr) (n d : Nat), ListB w wx g (K + 3 + 200 * k + 101) p k (.slice A3 k c3) os o B n d)
          case first =>
            rcases x with _ | _
            · go_wp2_with fail
              go_meet
              exact ⟨rfl, _, _, _, _, HB7.out⟩
            · have hk1 := hx rfl
              clear hx
              obtain ⟨k', rfl⟩ : ∃ k', k = k' + 1 := ⟨k - 1, by omega⟩
              have HRD : Hid (D.rd w7 w.heap.size w7.heap.size (dObjects os) (.slice A3 (k' + 1) c3)) := by
                show D.rd _ _ _ _ _
                unfold dObjects
                rw [HL.out]
                exact HB7.out.1.row.own.rd
              obtain ⟨b2, o2, hl2, A2, n2, c2, rfl, -, hb2h, -, -, ht2, -, -⟩ := rd_Object HRD.out (k := k') (by omega)
              obtain ⟨s, hs⟩ : ∃ s, s = os[k'].text := ⟨_, rfl⟩
              have hs9 : s.size ≤ 9 := by rw [hs]; exact (HS.out _ (List.getElem_mem hl2)).2
              rw [← hs] at ht2
              obtain ⟨d0, d1, d2, f0, f1, f2⟩ := HB7.out.cells
              have hpl := HB7.out.lt
              have HO8 := Lib.hid (HB7.out.over2 hg0 s hs9)
              clear HRD hs
              by_cases hs8 : s.size < 8
              · have HO9 := Lib.hid (HO8.out.text2 (by simpa using hpl) hg0 (s ++ ⟨#[99]⟩) (by rw [ByteArray.size_append]; have : (⟨#[99]⟩ : ByteArray).size = 1 := rfl; omega))
                go_wp2_with fail
                go_meet
                exact ⟨rfl, _, _, _, _, HO9.out⟩
              · go_wp2_with fail
                go_meet
                exact ⟨rfl, _, _, _, _, HO8.out⟩
          case rest =>
            clear HB7 hx
            obtain ⟨rfl, o, B8, n8, d8, hB⟩ := hcut
            obtain ⟨w8, hw8⟩ : ∃ w8, w8 = wc := ⟨_, rfl⟩
            subst hw8
            have HB8 := Lib.hid hB
            have hws8 := hB.size
            have hpl8 := hB.lt
            obtain ⟨d0, d1, d2, f0, f1, f2⟩ := hB.cells
            obtain ⟨vs, F, G, hov, hrest⟩ := hB.1.toP
            have HOV := Lib.hid hov
            have HFG : Hid (∃ F G, w8.ownsRow w.heap.size 39 3 (.slice A3 k c3) k vs ∧ D.ownL w8 (os.flatMap fObject) F vs ∧ D.ownL w8 (fObject o) G [.int .i64 o.kind, .slice B8 n8 d8, .string o.text] ∧ (F ++ G).Nodup ∧ (∀ g ∈ F ++ G, w.heap.size ≤ g ∧ g < w8.heap.size) ∧ ∀ g, (Value.slice A3 k c3).ownBlock = some g → g ∉ F ++ G) := ⟨F, G, hov, hrest⟩
            clear hov hrest hB
            go_wp2_with (at_builtin; go_must (refine wpList_app_at Try.elObj (m := 1) (news := [.int .i64 o.kind, .slice B8 n8 d8, .string o.text]) (HOV.out.alloc _) (rd_newn (by simp) [.int .i64 o.kind, .slice B8 n8 d8, .string o.text] 39) rfl (by simp [Value.oneCell']) (by unfold maxLen; omega) (by omega) (by simp; omega) rfl rfl rfl rfl ?_); intro v9 w9 hown9 hg9 hat9; go_must (have HGR9 := Lib.hid (GrowP.done HFG.out hown9 hg9 hat9)); go_must (have HD9 := Lib.hid ((HB8.out.2.2.2.1.alloc _).own hg0 (HOV.out.alloc _) hg9)); clear hown9 hg9 hat9)
            go_roundw
            case rel => exact ⟨k + 1, os ++ [o], by omega, by go_num, by show _ = _; rw [List.length_append, HL.out]; rfl, (fun x hx => (List.mem_append.1 hx).elim (HS.out x) (fun h => by rw [List.mem_singleton.1 h]; exact HB8.out.2.2.2.2)), by rw [List.flatMap_append]; simpa using HGR9.out, HD9.out.more (by omega)⟩
            case measure => simp [intOf]; omega
      · have hkq : k = q := by omega
        subst hkq
        go_wp2_with fail
        go_ret
        exact ⟨os, A3, k, c3, by unfold dObjects; rw [HL.out]; exact HGR.out.own, HL.out.symm, hq, HS.out, HDR.out.more (by omega), rfl⟩

end Go.Proofs.Ytegfdckejncbdaa
