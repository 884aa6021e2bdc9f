/-
  The walks of the reference's l92Txn and l92Quarantine: a drawn quarantine. Condition: the reader's place is small.
-/
import Derived.Test.YtgpjcmplnigmcaaStoD
import Derived.Test.YtgpjcmplnigmcaaSpecW
namespace Go.Proofs.Ytgpjcmplnigmcaa
set_option linter.unusedVariables false
set_option linter.unusedSimpArgs false
open Go.RowKit

theorem QuaN.kept {w w' : World} {base o : Nat} {q : QuaD} {vm va : Value} {row : Option Nat} (h : QuaN w base o q vm va) (hg : w.grownBy w' row) (hr : ∀ g, row = some g → g < base) : QuaN w' base o q vm va := by
  obtain ⟨Fm, vs, Fa, h1, h2, h3, h4, h5, h6, h7, h8⟩ := h
  have hk : ∀ g ∈ Fm ++ Fa, w'.heap[g]? = w.heap[g]? := fun g hg' => hg.block g (h5 g hg').2 (fun e => by have := hr g e.symm; have := (h5 g hg').1; omega)
  refine ⟨Fm, vs, Fa, D.own.keep _ _ _ (fun g hg' => hk g (List.mem_append_left _ hg')) h1, h2.kept hg ?_, D.ownL.keep _ _ _ (fun g hg' => hk g (List.mem_append_right _ hg')) h3, h4, fun g hg' => ⟨(h5 g hg').1, Nat.lt_of_lt_of_le (h5 g hg').2 hg.size⟩, h6, h7, h8⟩
  rcases hv : va.ownBlock with _ | k
  · exact .inl rfl
  · refine .inr (fun e => ?_)
    have := hr k e.symm
    have := (h2.lt k hv).1; omega
theorem QuaN.snocG {w w2 : World} {base o g0 : Nat} {os : List ObjD} {ys : List AreaD} {a : AreaD} {vm va v : Value} (h : QuaN w base o ⟨os, ys⟩ vm va) (hb : w.grownBy w2 (some g0)) (hg0 : g0 < base) (hd : Own w2 w.heap.size (dObjects a.objs) v) (hbs : base ≤ w.heap.size) (ho : o < w.heap.size) :
    ∃ vs, w2.ownsRow base 69 2 va ys.length vs ∧ ∀ (ob : Obj) (va' : Value) (w3 : World), w3.ownsRow base 69 2 va' (ys.length + 1) (vs ++ [.int .i64 a.txn, v]) → (w2.alloc ob).grownBy w3 va.ownBlock → (va'.ownBlock = va.ownBlock ∨ va'.ownBlock = some (w2.alloc ob).heap.size) → QuaN w3 base o ⟨os, ys ++ [a]⟩ vm va' := by
  obtain ⟨Fm, vs, Fa, h1, h2, h3, h4, h5, h6, h7, h8⟩ := h
  obtain ⟨G, q1, q2, q3⟩ := hd
  dsimp only at h2 h3
  refine ⟨vs, own_kept_row h2 hb hg0, fun ob va' w3 hown hg hat => ?_⟩
  have hsz : (w2.alloc ob).heap.size = w2.heap.size + 1 := by simp
  have hk : ∀ g ∈ Fm ++ Fa, w3.heap[g]? = w.heap[g]? := fun g hg' => (hg.block g (by have := (h5 g hg').2; have := hb.size; omega) (fun e => h6 g e.symm hg')).trans ((Below.heap_alloc _ _ _ (Nat.lt_of_lt_of_le (h5 g hg').2 hb.size)).trans (hb.block g (h5 g hg').2 (fun e => by injection e with e; have := (h5 g hg').1; omega)))
  have hkG : ∀ g ∈ G, w3.heap[g]? = w2.heap[g]? := fun g hg' => (hg.block g (by have := (q2 g hg').2; omega) (fun e => by have := (h2.lt g e.symm).2; have := (q2 g hg').1; omega)).trans (Below.heap_alloc _ _ _ (q2 g hg').2)
  have hL : D.ownL w3 (fArea a) G [.int .i64 a.txn, v] := by
    have := D.ownL.cons (D.own.int w3 a.txn) (D.ownL.cons (D.own.keep _ _ _ hkG q3) (D.ownL.nil w3))
    simpa [fArea] using this
  refine ⟨Fm, vs ++ [.int .i64 a.txn, v], Fa ++ G, D.own.keep _ _ _ (fun g hg' => hk g (List.mem_append_left _ hg')) h1, by simpa using hown, ?_, ?_, ?_, ?_, ?_, ?_⟩
  · show D.ownL w3 ((ys ++ [a]).flatMap fArea) _ _
    rw [List.flatMap_append, List.flatMap_cons, List.flatMap_nil, List.append_nil]
    exact D.ownL.app (D.ownL.keep _ _ _ (fun g hg' => hk g (List.mem_append_right _ hg')) h3) hL
  · rw [← List.append_assoc]
    refine List.nodup_append.2 ⟨h4, q1, fun x hx y hy e => ?_⟩
    subst e; have := (h5 x hx).2; have := (q2 x hy).1; omega
  · intro g hg'
    have hs := hg.size
    rw [← List.append_assoc] at hg'
    rcases List.mem_append.1 hg' with hg' | hg'
    · exact ⟨(h5 g hg').1, by have := (h5 g hg').2; have := hb.size; omega⟩
    · exact ⟨by have := (q2 g hg').1; omega, by have := (q2 g hg').2; omega⟩
  · intro g hv hg'
    rw [← List.append_assoc] at hg'
    rcases hat with hat | hat
    · rw [hat] at hv
      rcases List.mem_append.1 hg' with hg' | hg'
      · exact h6 g hv hg'
      · have := (h2.lt g hv).2; have := (q2 g hg').1; omega
    · rw [hat] at hv
      injection hv with hv
      rcases List.mem_append.1 hg' with hg' | hg'
      · have := (h5 g hg').2; have := hb.size; omega
      · have := (q2 g hg').2; omega
  · intro g hg'
    rw [← List.append_assoc] at hg'
    rcases List.mem_append.1 hg' with hg' | hg'
    · exact h7 g hg'
    · have := (q2 g hg').1; omega
  · rcases hat with hat | hat
    · rw [hat]; exact h8
    · rw [hat]; intro e; injection e with e; have := hb.size; omega
/-- what a quarantine of its own reads as -/
theorem QuaG.rd {w : World} {base : Nat} {q : QuaD} {vm va : Value} (h : QuaG w base q vm va) : ∃ A n c B m d, vm = .slice A n c ∧ va = .slice B m d ∧ D.rd w base w.heap.size (dObjects q.main) (.slice A n c) ∧ D.rd w base w.heap.size (dAreas q.areas) (.slice B m d) := by
  obtain ⟨Fm, vs, Fa, h1, h2, h3, h4, h5, h6⟩ := h
  have r1 := D.own.rd _ Fm _ (fun g hg => h5 g (List.mem_append_left _ hg)) h1
  obtain ⟨A, c, rfl, -, -, -⟩ := D.rd.arr_inv r1
  have r2 := D.ownL.rd _ Fa _ (fun g hg => h5 g (List.mem_append_right _ hg)) h3
  obtain ⟨B, d, rfl, hd1, hd2, hrd⟩ := Rd.of_own h2
  unfold maxLen at hd2
  refine ⟨A, _, c, B, _, d, rfl, rfl, r1, ?_⟩
  unfold dAreas D.rd
  exact ⟨B, d, vs, rfl, hd1, by omega, by rw [flat_lenG fArea 2 fArea_len], hrd, r2⟩
theorem QuaN.ofG {w : World} {base o : Nat} {q : QuaD} {vm va : Value} (h : QuaG w base q vm va) (ho : o < base) : QuaN w base o q vm va := by
  obtain ⟨Fm, vs, Fa, h1, h2, h3, h4, h5, h6⟩ := h
  exact ⟨Fm, vs, Fa, h1, h2, h3, h4, h5, h6, fun g hg => by have := (h5 g hg).1; omega, fun e => by have := (h2.lt o e).1; omega⟩
theorem QuaN.low {w : World} {base base' o : Nat} {q : QuaD} {vm va : Value} (h : QuaN w base o q vm va) (hb : base' ≤ base) : QuaN w base' o q vm va := by
  obtain ⟨Fm, vs, Fa, h1, h2, h3, h4, h5, h6, h7, h8⟩ := h
  refine ⟨Fm, vs, Fa, h1, ⟨h2.1, ?_⟩, h3, h4, fun g hg => ⟨Nat.le_trans hb (h5 g hg).1, (h5 g hg).2⟩, h6, h7, h8⟩
  rcases h2.2 with h | ⟨a1, a2, a3, a4, a5, a6⟩
  · exact .inl h
  · exact .inr ⟨a1, a2, a3, a4, Nat.le_trans hb a5, a6⟩

/-- what holds of every drawn quarantine, also of one that is not valid -/
def GoodQ (q : QuaD) : Prop := (∀ o ∈ q.main, objB o = true) ∧ q.main.length ≤ 17 ∧ (∀ a ∈ q.areas, (∀ o ∈ a.objs, objB o = true) ∧ a.objs.length ≤ 16) ∧ q.areas.length ≤ 5
theorem GoodQ.of {q : QuaD} (h : quaB q = true) : GoodQ q := by
  obtain ⟨⟨v1, v2⟩, v3, v4⟩ := (quaB_iff _).1 h
  obtain ⟨s1, s2, s3⟩ := (storeB_iff _).1 v3
  exact ⟨s1, by omega, fun a ha => by
    obtain ⟨q1, q2, q3⟩ := (storeB_iff _).1 ((fullB_iff _).1 (v1 a ha).2).2
    exact ⟨q1, q3⟩, by omega⟩
theorem quaPutB_and {q : QuaD} {t : Int} {l : List ObjD} (h : quaPutB q t l = true) : putIn q t l = true ∧ putOk q t l = true := by
  unfold quaPutB at h
  simpa using h
theorem quaPut_valid {q : QuaD} {t : Int} {l : List ObjD} (h : quaPutB q t l = true) : quaB (quaPut q t l) = true := by
  obtain ⟨h1, h2⟩ := quaPutB_and h
  rw [(quaPut_ok h1 h2).1]
  unfold putIn at h1
  unfold putOk at h2
  simp only [Bool.and_eq_true, Bool.not_eq_true', Bool.and_eq_false_iff, decide_eq_false_iff_not] at h1 h2
  obtain ⟨⟨h3, h4⟩, h5⟩ := h1
  obtain ⟨⟨h6, h7⟩, h8⟩ := h2
  obtain ⟨hl0, hl1⟩ := (fullB_iff _).1 h5
  have hne : newA q t l ≠ [] := newA_ne h6 hl0
  refine setA_valid h3 h4 (.inr ((fullB_iff _).2 ⟨hne, allP_store (areaL_store h3 t) ((storeB_iff _).1 hl1).1⟩)) ((quaB_iff _).1 h3).2.1 ?_
  rcases h8 with h8 | h8
  · rcases ha : areaO q.areas t with _ | x
    · exact absurd ha h8
    · exact .inr (.inl rfl)
  · exact .inr (.inr (by omega))

/-- a quarantine that is being drawn: the block r of the result, its own block q, and the reader -/
def QuB (w wr : World) (g K r q : Nat) (Q : QuaD) (vm va : Value) : Prop :=
  wr.heap[r]? = some (.cells #[.slice none 0 0, .slice none 0 0] 31 (0, 0)) ∧ wr.heap[q]? = some (.cells #[vm, va] 31 (0, 0)) ∧ w.heap.size ≤ r ∧ r ≠ q ∧ w.heap.size ≤ q ∧ QuaN wr (r + 1) q Q vm va ∧ DrawT w wr g K
section
variable {w wr w' : World} {g K K' r q : Nat} {Q : QuaD} {vm va : Value}
theorem QuB.more (h : QuB w wr g K r q Q vm va) (hK : K ≤ K') : QuB w wr g K' r q Q vm va := by
  obtain ⟨h1, h2, h3, h4, h5, h6, h7⟩ := h
  exact ⟨h1, h2, h3, h4, h5, h6, h7.more hK⟩
theorem QuB.drw (h : QuB w wr g K r q Q vm va) : DrawT w wr g K := h.2.2.2.2.2.2
theorem QuB.rdr (h : QuB w wr g K r q Q vm va) : Rdr wr g K := h.drw.2
theorem QuB.draw (hg0 : g < w.heap.size) (h : QuB w wr g K r q Q vm va) (h' : DrawT wr w' g K') : QuB w w' g K' r q Q vm va := by
  obtain ⟨h1, h2, h3, h4, h5, h6, h7⟩ := h
  exact ⟨(h'.1.block _ (hlt_of h1) (fun e => by injection e with e; omega)).trans h1, (h'.1.block _ (hlt_of h2) (fun e => by injection e with e; omega)).trans h2, h3, h4, h5, h6.kept h'.1 (fun k hk => by injection hk with hk; omega), h7.tr h'⟩
theorem QuB.fresh (h : QuB w wr g K r q Q vm va) (hb : Below wr.heap.size wr w') : QuB w w' g K r q Q vm va := by
  obtain ⟨h1, h2, h3, h4, h5, h6, h7⟩ := h
  exact ⟨(hb.block _ (hlt_of h1)).trans h1, (hb.block _ (hlt_of h2)).trans h2, h3, h4, h5, h6.kept (grown_none hb none) (fun k hk => by cases hk), ⟨grown_tr h7.1 (grown_none hb _), h7.2.grown (grown_none hb none) (fun q hq => by cases hq)⟩⟩
theorem QuB.cells (h : QuB w wr g K r q Q vm va) : wr.cell? ⟨q, 0, none⟩ = some vm ∧ wr.cell? ⟨q, 1, none⟩ = some va ∧ wr.frozen? ⟨q, 0, none⟩ = false ∧ wr.frozen? ⟨q, 1, none⟩ = false ∧ q < wr.heap.size :=
  ⟨cell_of_row wr q 0 _ _ _ h.2.1, cell_of_row wr q 1 _ _ _ h.2.1, frozen_of_row wr q 0 _ _ h.2.1, frozen_of_row wr q 1 _ _ h.2.1, hlt_of h.2.1⟩
theorem QuB.res (h : QuB w wr g K r q Q vm va) : wr.cell? ⟨r, 0, none⟩ = some (.slice none 0 0) ∧ wr.cell? ⟨r, 1, none⟩ = some (.slice none 0 0) ∧ wr.frozen? ⟨r, 0, none⟩ = false ∧ wr.frozen? ⟨r, 1, none⟩ = false ∧ r < wr.heap.size :=
  ⟨cell_of_row wr r 0 _ _ _ h.1, cell_of_row wr r 1 _ _ _ h.1, frozen_of_row wr r 0 _ _ h.1, frozen_of_row wr r 1 _ _ h.1, hlt_of h.1⟩
theorem QuB.rd (h : QuB w wr g K r q Q vm va) : ∃ A n c B m d, vm = .slice A n c ∧ va = .slice B m d ∧ D.rd wr (r + 1) wr.heap.size (dObjects Q.main) (.slice A n c) ∧ D.rd wr (r + 1) wr.heap.size (dAreas Q.areas) (.slice B m d) := h.2.2.2.2.2.1.gen.rd
/-- another quarantine, in memory of its own, is stored -/
theorem QuB.put {base : Nat} {Q' : QuaD} {vm' va' : Value} (hg0 : g < w.heap.size) (h : QuB w wr g K r q Q vm va) (h' : QuaG wr base Q' vm' va') (hb1 : r + 1 ≤ base) (hb2 : q < base) : QuB w ((wr.setCell ⟨q, 0, none⟩ vm').setCell ⟨q, 1, none⟩ va') g K r q Q' vm' va' := by
  obtain ⟨h1, h2, h3, h4, h5, h6, h7⟩ := h
  refine ⟨((Below.heap_setCell _ _ _ _ (fun e => h4 e)).trans (Below.heap_setCell _ _ _ _ (fun e => h4 e))).trans h1, ?_, h3, h4, h5, (((QuaN.ofG h' hb2).low hb1).set 0 _).set 1 _, (h7.setCell h5 hg0 _).setCell h5 hg0 _⟩
  rw [heap_setCell_same _ q 1 _ _ _ (heap_setCell_same wr q 0 _ _ _ h2)]
  rfl
end

/-- what is left behind the draw of a quarantine -/
def DrawnQ (w w' : World) (g K : Nat) (e : Ending) : Prop :=
  ∃ (Q : QuaD) (A : Option Addr) (n c : Nat) (B : Option Addr) (m d : Nat), D.rd w' w.heap.size w'.heap.size (dObjects Q.main) (.slice A n c) ∧ D.rd w' w.heap.size w'.heap.size (dAreas Q.areas) (.slice B m d) ∧ GoodQ Q ∧ DrawT w w' g K ∧ e = .returned (.agg #[.slice A n c, .slice B m d])

theorem DrawT.fresh {w wr w' : World} {g K : Nat} (h : DrawT w wr g K) (hb : Below wr.heap.size wr w') : DrawT w w' g K := ⟨grown_tr h.1 (grown_none hb _), h.2.grown (grown_none hb none) (fun q hq => by cases hq)⟩
/-- the box p of another quarantine beside the one that is being drawn -/
def BoxE (w wx : World) (g K r q s : Nat) (Q Q' : QuaD) (vm va C D : Value) (p : Nat) : Prop :=
  QuB w wx g K r q Q vm va ∧ wx.heap[p]? = some (.cells #[C, D] 31 (0, 0)) ∧ s ≤ p ∧ QuaG wx s Q' C D
theorem BoxE.old {w wr wc : World} {g K K' r q p : Nat} {Q Q' : QuaD} {vm va C D x y : Value} (hg0 : g < w.heap.size) (h : QuB w wr g K r q Q vm va) (hd : DrawT wr wc g K') (hx : wc.heap[p]? = some (.cells #[x, y] 31 (0, 0))) (hp : wr.heap.size ≤ p) (hq : QuaG wc (p + 1) Q' C D) :
    BoxE w ((wc.setCell ⟨p, 0, none⟩ C).setCell ⟨p, 1, none⟩ D) g K' r q wr.heap.size Q Q' vm va C D p := by
  have hgr : g < wr.heap.size := h.rdr.lt
  refine ⟨h.draw hg0 ((hd.setCell hp hgr _).setCell hp hgr _), ?_, hp, ((hq.set (by omega) _ _).set (by omega) _ _).low (by omega)⟩
  rw [heap_setCell_same _ p 1 _ _ _ (heap_setCell_same wc p 0 _ _ _ hx)]
  rfl
theorem BoxE.new {w wr wc : World} {g K K' r q : Nat} {Q Q' : QuaD} {vm va C D : Value} (hg0 : g < w.heap.size) (h : QuB w wr g K r q Q vm va) (hd : DrawT wr wc g K') (hq : QuaG wc wr.heap.size Q' C D) :
    BoxE w (wc.alloc (.cells #[C, D] 31)) g K' r q wr.heap.size Q Q' vm va C D wc.heap.size :=
  ⟨h.draw hg0 (hd.alloc _), heap_alloc_new wc _, hd.1.size, hq.kept (World.grownBy_alloc wc _ none) (fun k hk => by cases hk)⟩

theorem new_cell (w : World) (cs : Array Value) (e : TypeId) (j : Nat) : (w.alloc (.cells cs e)).cell? ⟨w.heap.size, j, none⟩ = cs[j]? := cell_of_row _ _ _ _ _ _ (heap_alloc_new w _)
theorem own_lowA {w : World} {base base' n size : Nat} {e : TypeId} {v : Value} {cs : List Value} (h : w.ownsRow base e size v n cs) (hb : base' ≤ base) : w.ownsRow base' e size v n cs := by
  refine ⟨h.1, ?_⟩
  rcases h.2 with h | ⟨a1, a2, a3, a4, a5, a6⟩
  · exact .inl h
  · exact .inr ⟨a1, a2, a3, a4, Nat.le_trans hb a5, a6⟩
/-- an area is put behind the others -/
theorem QuB.snoc {w wa wb : World} {g K K' r q : Nat} {ms : List ObjD} {zs : List AreaD} {vm va v : Value} {a : AreaD} (hg0 : g < w.heap.size) (h : QuB w wa g K r q ⟨ms, zs⟩ vm va) (hd : DrawT wa wb g K') (ho : Own wb wa.heap.size (dObjects a.objs) v) :
    ∃ vs, wb.ownsRow (r + 1) 69 2 va zs.length vs ∧ ∀ (ob : Obj) (va' : Value) (wd : World), wd.ownsRow (r + 1) 69 2 va' (zs.length + 1) (vs ++ [.int .i64 a.txn, v]) → (wb.alloc ob).grownBy wd va.ownBlock → (va'.ownBlock = va.ownBlock ∨ va'.ownBlock = some (wb.alloc ob).heap.size) →
      wd.heap[q]? = some (.cells #[vm, va] 31 (0, 0)) ∧ QuB w (wd.setCell ⟨q, 1, none⟩ va') g K' r q ⟨ms, zs ++ [a]⟩ vm va' := by
  have hB := h.draw hg0 hd
  obtain ⟨h1, h2, h3, h4, h5, h6, h7⟩ := h
  obtain ⟨b1, b2, b3, b4, b5, b6, b7⟩ := hB
  have hl1 := hlt_of h1
  have hl2 := hlt_of h2
  have hs := hd.1.size
  obtain ⟨vs, hrow, hdone⟩ := QuaN.snocG h6 hd.1 (by omega) ho (by omega) (by omega)
  have hrow' : wb.ownsRow w.heap.size 69 2 va zs.length vs := own_lowA hrow (by omega)
  refine ⟨vs, hrow, fun ob va' wd hown hg hat => ?_⟩
  have hq : wd.heap[q]? = some (.cells #[vm, va] 31 (0, 0)) := (hg.block q (by simp; omega) (fun e => b6.ne e.symm)).trans ((Below.heap_alloc wb _ _ (hlt_of b2)).trans b2)
  have hr : wd.heap[r]? = some (.cells #[.slice none 0 0, .slice none 0 0] 31 (0, 0)) := (hg.block r (by simp; omega) (fun e => by have := (hrow.lt r e.symm).1; omega)).trans ((Below.heap_alloc wb _ _ (hlt_of b1)).trans b1)
  refine ⟨hq, (Below.heap_setCell _ _ _ _ (fun e => h4 e)).trans hr, ?_, h3, h4, h5, (hdone ob va' wd hown hg hat).set 1 _, ((b7.alloc ob).own hg0 (hrow'.alloc ob) hg).setCell h5 hg0 _⟩
  rw [heap_setCell_same wd q 1 _ _ _ hq]
  rfl
/-- what is handed back -/
theorem QuB.fin {w wf : World} {g K r q : Nat} {Q : QuaD} {A B : Option Addr} {n c m d : Nat} (hg0 : g < w.heap.size) (h : QuB w wf g K r q Q (.slice A n c) (.slice B m d)) (hQ : GoodQ Q) (x y : Value) :
    DrawnQ w ((wf.setCell ⟨r, 0, none⟩ x).setCell ⟨r, 1, none⟩ y) g K (.returned (.agg #[.slice A n c, .slice B m d])) := by
  obtain ⟨A', n', c', B', m', d', e1, e2, r1, r2⟩ := h.rd
  injection e1 with e11 e12 e13
  injection e2 with e21 e22 e23
  subst e11 e12 e13 e21 e22 e23
  have hr : w.heap.size ≤ r := h.2.2.1
  refine ⟨Q, A, n, c, B, m, d, ?_, ?_, hQ, (h.drw.setCell hr hg0 _).setCell hr hg0 _, rfl⟩
  · exact ((r1.setCell (p := ⟨r, 0, none⟩) (.inl (Nat.lt_succ_self r)) x).setCell (p := ⟨r, 1, none⟩) (.inl (Nat.lt_succ_self r)) y).more (by omega) (by simp)
  · exact ((r2.setCell (p := ⟨r, 0, none⟩) (.inl (Nat.lt_succ_self r)) x).setCell (p := ⟨r, 1, none⟩) (.inl (Nat.lt_succ_self r)) y).more (by omega) (by simp)
theorem QuB.fin2 {w w6 wf : World} {g K r q : Nat} {ms os : List ObjD} {zs : List AreaD} {A A' B : Option Addr} {n c n' c' m d : Nat} (hg0 : g < w.heap.size) (h : QuB w wf g K r q ⟨ms, zs⟩ (.slice A n c) (.slice B m d)) (hr : D.rd wf w6.heap.size wf.heap.size (dObjects os) (.slice A' n' c')) (hq : q < w6.heap.size) (hrl : r < w6.heap.size) (hQ : GoodQ ⟨os, zs⟩) (x y : Value) :
    DrawnQ w (((wf.setCell ⟨q, 0, none⟩ (.slice A' n' c')).setCell ⟨r, 0, none⟩ x).setCell ⟨r, 1, none⟩ y) g K (.returned (.agg #[.slice A' n' c', .slice B m d])) := by
  have hG := (h.2.2.2.2.2.1.set 0 (.slice A' n' c')).gen
  obtain ⟨A1, n1, c1, B1, m1, d1, e1, e2, r1, r2⟩ := hG.rd
  injection e2 with e21 e22 e23
  subst e21 e22 e23
  have hrw : w.heap.size ≤ r := h.2.2.1
  have hqw : w.heap.size ≤ q := h.2.2.2.2.1
  refine ⟨⟨os, zs⟩, A', n', c', B, m, d, ?_, ?_, hQ, ((h.drw.setCell hqw hg0 _).setCell hrw hg0 _).setCell hrw hg0 _, rfl⟩
  · exact (((hr.setCell (p := ⟨q, 0, none⟩) (.inl hq) (.slice A' n' c')).setCell (p := ⟨r, 0, none⟩) (.inl hrl) x).setCell (p := ⟨r, 1, none⟩) (.inl hrl) y).more (by omega) (by simp)
  · exact ((r2.setCell (p := ⟨r, 0, none⟩) (.inl (Nat.lt_succ_self r)) x).setCell (p := ⟨r, 1, none⟩) (.inl (Nat.lt_succ_self r)) y).more (by omega) (by simp)
theorem DrawnQ.more {w w' : World} {g K K' : Nat} {e : Ending} (h : DrawnQ w w' g K e) (hK : K ≤ K') : DrawnQ w w' g K' e := by
  obtain ⟨Q, A, n, c, B, m, d, h1, h2, h3, h4, h5⟩ := h
  exact ⟨Q, A, n, c, B, m, d, h1, h2, h3, h4.more hK, h5⟩

set_option maxHeartbeats 800000 in
theorem l92Txn_any (g K : Nat) (w : World) (hK : K ≤ 1000000000 - 10) (h : Rdr w g K) :
    Calls Try.prog 75 #[.pointer (some ⟨g, 0, none⟩)] w fun e w' => ∃ x : Int, DrawT w w' g (K + 3) ∧ e = .returned (.int .i64 x) := by
  have HR := Lib.hid (DrawT.refl h)
  clear h
  go_enter Try.func75, Try.ntmps75
  go_wp2_with fail
  refine (pick_any g K 24 _ (by omega) HR.out.2).mono ?_
  rintro e w1 ⟨r1, hr1, hR1, hg1, -, rfl⟩
  have HS1 := Lib.hid (HR.out.step hg1 hR1)
  clear hR1 hg1 hr1 HR
  by_cases h0 : r1 = 0
  · have hd : (r1 == 0) = true := by simp [h0]
    clear h0
    have HA := Lib.hid (HS1.out.alloc (.cells #[.int .i64 (-1), .int .i64 11, .int .i64 12] 3))
    have hn := new_cell w1 #[.int .i64 (-1), .int .i64 11, .int .i64 12] 3
    have hbl : w1.heap.size < (w1.alloc (.cells #[.int .i64 (-1), .int .i64 11, .int .i64 12] 3)).heap.size := by simp
    go_wp2_with fail
    refine (pick_any g (K + 1) 3 _ (by omega) HA.out.2).mono ?_
    rintro e w2 ⟨r2, hr2, hR2, hg2, -, rfl⟩
    have HS2 := Lib.hid (HA.out.step hg2 hR2)
    obtain ⟨q, rfl⟩ := Int.eq_ofNat_of_zero_le hr2.1
    have hq := hr2.2 (by omega)
    have hc : w2.cell? ⟨w1.heap.size, q, none⟩ = (#[.int .i64 (-1), .int .i64 11, .int .i64 12] : Array Value)[q]? := by
      rw [← hn q]
      exact World.cell?_of_block (hg2.block _ hbl (fun e => by injection e with e; have e' : w1.heap.size = g := e; have := HS1.out.2.lt; omega))
    clear hR2 hg2 hr2 HA hn
    have hq3 : q = 0 ∨ q = 1 ∨ q = 2 := by omega
    rcases hq3 with rfl | rfl | rfl
    · have hc' : w2.cell? ⟨w1.heap.size, 0, none⟩ = some (.int .i64 (-1)) := hc
      clear hc
      go_wp2_with fail
      go_ret
      exact ⟨_, HS2.out.more (by omega), rfl⟩
    · have hc' : w2.cell? ⟨w1.heap.size, 1, none⟩ = some (.int .i64 11) := hc
      clear hc
      go_wp2_with fail
      go_ret
      exact ⟨_, HS2.out.more (by omega), rfl⟩
    · have hc' : w2.cell? ⟨w1.heap.size, 2, none⟩ = some (.int .i64 12) := hc
      clear hc
      go_wp2_with fail
      go_ret
      exact ⟨_, HS2.out.more (by omega), rfl⟩
  · have hd : (r1 == 0) = false := by simp [h0]
    clear h0
    go_wp2_with fail
    refine (pick_any g (K + 1) 5 _ (by omega) HS1.out.2).mono ?_
    rintro e w2 ⟨r2, hr2, hR2, hg2, -, rfl⟩
    have HS2 := Lib.hid (HS1.out.step hg2 hR2)
    clear hR2 hg2 hr2 HS1
    go_wp2_with fail
    go_ret
    exact ⟨_, HS2.out.more (by omega), rfl⟩

attribute [local go_sem] loadQ
set_option maxHeartbeats 12800000 in
set_option maxRecDepth 100000 in
theorem l92Quarantine_any (g K : Nat) (w : World) (hK : K ≤ 100000) (h : Rdr w g K) :
    Calls Try.prog 65 #[.pointer (some ⟨g, 0, none⟩)] w fun e w' => DrawnQ w w' g (K + 20000) e := by
  have hg0 := h.lt
  obtain ⟨r, hr⟩ : ∃ r, r = w.heap.size := ⟨_, rfl⟩
  obtain ⟨w1, hw1⟩ : ∃ w1, w1 = w.alloc (.cells #[.slice none 0 0, .slice none 0 0] 31) := ⟨_, rfl⟩
  have hx1 : w1.heap[r]? = some (.cells #[.slice none 0 0, .slice none 0 0] 31 (0, 0)) := by rw [hw1, hr]; exact heap_alloc_new w _
  have HX1 := Lib.hid hx1
  have HD1 : Hid (DrawT w w1 g K) := by rw [hw1]; exact Lib.hid ((DrawT.refl h).alloc _)
  have hrw : w.heap.size ≤ r := by omega
  have hww1 : w1.heap.size = r + 1 := by rw [hw1, hr]; simp
  have HW1 := Lib.hid hww1
  clear h hx1 hww1
  go_enter Try.func65, Try.ntmps65
  go_upto_region 1 with (fail)
  rw [← hw1, ← hr]
  clear hw1 hr
  go_wp2_with fail
  refine (l91Store_any g K w1 (by omega) HD1.out.2).mono ?_
  rintro e w2 ⟨os, A, c, hgr2, hos, ho, hd2, rfl⟩
  have HG2 := Lib.hid hgr2.own
  have HO := Lib.hid ho
  have HD2 := Lib.hid (HD1.out.tr hd2)
  have HX2 := Lib.hid ((hd2.1.block r (hlt_of HX1.out) (fun e => by injection e with e; omega)).trans HX1.out)
  have hw12 := hd2.1.size
  clear hgr2 ho hd2
  obtain ⟨n, hn⟩ : ∃ n, n = os.length := ⟨_, rfl⟩
  have HN := Lib.hid hn
  rw [← hn] at hos HG2
  rw [← hn]
  obtain ⟨q, hq⟩ : ∃ q, q = w2.heap.size + 1 := ⟨_, rfl⟩
  obtain ⟨ea, hea⟩ : ∃ ea, ea = w2.heap.size := ⟨_, rfl⟩
  obtain ⟨w3, hw3⟩ : ∃ w3, w3 = (w2.alloc (.cells #[] 69)).alloc (.cells #[.slice A n c, .slice (some ⟨w2.heap.size, 0, none⟩) 0 0] 31) := ⟨_, rfl⟩
  have hb23 : Below w2.heap.size w2 w3 := by rw [hw3]; exact ((Below.refl _ _).alloc (Nat.le_refl _) _).alloc (by simp) _
  have hxe : w3.heap[ea]? = some (.cells #[] 69 (0, 0)) := by rw [hw3, hea]; exact (Below.heap_alloc _ _ _ (by simp)).trans (heap_alloc_new w2 _)
  have hxq : w3.heap[q]? = some (.cells #[.slice A n c, .slice (some ⟨ea, 0, none⟩) 0 0] 31 (0, 0)) := by
    have := heap_alloc_new (w2.alloc (.cells #[] 69)) (.cells #[.slice A n c, .slice (some ⟨w2.heap.size, 0, none⟩) 0 0] 31)
    rw [hw3, hq, hea]; simpa using this
  have hlr := hlt_of HX1.out
  have HB3 : Hid (QuB w w3 g (K + 4500) r q ⟨os, []⟩ (.slice A n c) (.slice (some ⟨ea, 0, none⟩) 0 0)) := by
    have hg : Own w2 w1.heap.size (dObjects os) (.slice A n c) := by unfold dObjects; rw [← HN.out]; exact HG2.out
    have hN := QuaN.begin (o := q) hg hb23 (by omega) hxe (by omega) (by omega)
    refine Lib.hid ⟨(hb23.block r (hlt_of HX2.out)).trans HX2.out, hxq, hrw, by omega, by omega, hN.low (by omega), ⟨grown_tr HD2.out.1 (grown_none hb23 _), HD2.out.2.grown (grown_none hb23 none) (fun q hq => by cases hq)⟩⟩
  have HGD : Hid (GoodQ ⟨os, []⟩) := Lib.hid ⟨HO.out, by show os.length ≤ 17; rw [← HN.out]; omega, (fun a ha => by cases ha), Nat.zero_le _⟩
  clear hb23 hxe hxq hlr HG2 hn
  go_upto_region 2 with (fail)
  rw [← hw3, ← hq, ← hea]
  clear hw3 hq hea
  go_wp2_with fail
  refine (pick_any g (K + 4500) 6 _ (by omega) HB3.out.rdr).mono ?_
  rintro e w4 ⟨r4, hr4, hR4, hg4, -, rfl⟩
  have HB4 := Lib.hid (HB3.out.draw hg0 ⟨hg4, hR4⟩)
  obtain ⟨k4, rfl⟩ := Int.eq_ofNat_of_zero_le hr4.1
  have hk4 := hr4.2 (by omega)
  have hk5 : k4 ≤ 5 := by omega
  clear hR4 hg4 hr4 HB3
  have HB4' := Lib.hid (HB4.out.more (show K + 4500 + 1 ≤ K + 4501 + 1000 * 0 by omega))
  clear HB4 hk4
  go_wp2_with fail
  go_loopw [5] (fun i wr => ∃ (k : Nat) (Q : QuaD) (vm va : Value), k ≤ k4 ∧ i = .int .i64 k ∧ Hid (GoodQ Q) ∧ Q.areas.length ≤ 4 ∧ QuB w wr g (K + 4501 + 1000 * k) r q Q vm va) (fun i _ => k4 - (intOf i).toNat)
  case atStart => exact ⟨0, _, _, _, Nat.zero_le _, rfl, HGD, Nat.zero_le _, HB4'.out⟩
  case round =>
    obtain ⟨k, ⟨ms, zs⟩, vm, va, hk, rfl, HQ, hz4, hqb⟩ := hrel
    dsimp only at hz4
    obtain ⟨A5, n5, c5, B5, m5, d5, rfl, rfl, hrm, hra⟩ := hqb.rd
    have HB := Lib.hid hqb
    have HRM := Lib.hid hrm
    have hws := hqb.drw.1.size
    have hn17 : n5 ≤ 17 := by have := hrm.len.1; have := HQ.out.2.1; omega
    have hgr : g < r + 1 := by have := hqb.2.2.1; omega
    clear hqb hrm hra HB4' HGD
    by_cases hlt : k < k4
    · have HRD : Hid (Rdr wr.drew g (K + 4501 + 1000 * k)) := Lib.hid HB.out.rdr
      obtain ⟨z0, z1, zf0, zf1, zl⟩ := HB.out.cells
      go_upto_region 6 with (fail)
      go_cut [6, 7] (fun v b wx => ∃ (p : Nat) (C7 : Option Addr) (n7 c7 : Nat) (D7 : Option Addr) (m7 d7 : Nat) (ra : Int) (ls : List ObjD), v = .pointer (some ⟨p, 0, none⟩) ∧ b = .bool (quaPutB ⟨ms, zs⟩ ra ls) ∧ Hid (BoxE w wx g (K + 4501 + 1000 * k + 901) r q wr.heap.size ⟨ms, zs⟩ (quaPut ⟨ms, zs⟩ ra ls) (.slice A5 n5 c5) (.slice B5 m5 d5) (.slice C7 n7 c7) (.slice D7 m7 d7) p))
      case first =>
        have tok1 : True := trivial
        go_region_held_law (fun w' => w'.cell? ⟨q, 0, none⟩ = some (.slice A5 n5 c5) ∧ w'.cell? ⟨q, 1, none⟩ = some (.slice B5 m5 d5)) (go_keep)
          (first
            | (have _t := tok1; go_at_call 67; refine (pick_any g (K + 4501 + 1000 * k) 5 wr.drew (by omega) HRD.out).mono ?_; rintro e wa ⟨ra, -, hRa, hga', -, rfl⟩; have hda : DrawT wr wa g (K + 4501 + 1000 * k + 1) := ⟨⟨hga'.os, hga'.tape, hga'.output, hga'.size, hga'.block⟩, hRa⟩; have HDa := Lib.hid (hda); have HBa := Lib.hid (HB.out.draw hg0 HDa.out); have hsa : wr.heap.size ≤ wa.heap.size := HDa.out.1.size; have HRMa := Lib.hid (HRM.out.grown HDa.out.1 (Nat.le_refl _) (fun x hx => by injection hx with hx; omega)); have a0 : wa.cell? ⟨q, 0, none⟩ = some (.slice A5 n5 c5) := HBa.out.cells.1; have a1 : wa.cell? ⟨q, 1, none⟩ = some (.slice B5 m5 d5) := HBa.out.cells.2.1; have al : q < wa.heap.size := HBa.out.cells.2.2.2.2; have tok2 : True := trivial; clear tok1 hRa hga' hda)
            | (have _t := tok1; go_at_call 67; refine (pick_any g (K + 4501 + 1000 * k) 5 (wr.drew.alloc (.cells #[.slice none 0 0, .slice none 0 0] 31)) (by omega) (HRD.out.alloc _)).mono ?_; rintro e wa ⟨ra, -, hRa, hga', -, rfl⟩; have hda : DrawT (wr.alloc (.cells #[.slice none 0 0, .slice none 0 0] 31)) wa g (K + 4501 + 1000 * k + 1) := ⟨⟨hga'.os, hga'.tape, hga'.output, hga'.size, hga'.block⟩, hRa⟩; have HDa := Lib.hid (((DrawT.refl HB.out.rdr).alloc _).tr hda); have HBa := Lib.hid (HB.out.draw hg0 HDa.out); have hsa : wr.heap.size ≤ wa.heap.size := HDa.out.1.size; have HRMa := Lib.hid (HRM.out.grown HDa.out.1 (Nat.le_refl _) (fun x hx => by injection hx with hx; omega)); have hxb : wa.heap[wr.heap.size]? = some (.cells #[.slice none 0 0, .slice none 0 0] 31 (0, 0)) := (hda.1.block (wr.heap.size) (by simp) (fun e => by injection e with e; omega)).trans (heap_alloc_new wr _); have HXB := Lib.hid hxb; clear hxb; have a0 : wa.cell? ⟨q, 0, none⟩ = some (.slice A5 n5 c5) := HBa.out.cells.1; have a1 : wa.cell? ⟨q, 1, none⟩ = some (.slice B5 m5 d5) := HBa.out.cells.2.1; have al : q < wa.heap.size := HBa.out.cells.2.2.2.2; have tokB2 : True := trivial; clear tok1 hRa hga' hda)
            | (have _t := tok2; go_at_call 76; refine (l92Some_any g (K + 4501 + 1000 * k + 1) ms A5 n5 c5 wa (r + 1) wr.heap.size (by omega) (by first | exact Nat.le_refl _ | (simp; done) | (simp; omega) | omega) hgr hn17 HQ.out.1 HRMa.out HDa.out.2).mono ?_; rintro e wb ⟨ls, Ab, cb, hgrb, hlb, hob, hdb, rfl⟩; have HDb := Lib.hid (HDa.out.tr hdb); have HBb := Lib.hid (HB.out.draw hg0 HDb.out); have HLb : Hid (D.rd wb wa.heap.size wb.heap.size (dObjects ls) (.slice Ab ls.length cb)) := Lib.hid (hgrb.own.rd.more (by first | exact Nat.le_refl _ | (simp; done) | (simp; omega) | omega) (Nat.le_refl _)); have hsb : wa.heap.size ≤ wb.heap.size := (by have := hdb.1.size; first | exact this | (simp at this; omega)); have b0 : wb.cell? ⟨q, 0, none⟩ = some (.slice A5 n5 c5) := HBb.out.cells.1; have b1 : wb.cell? ⟨q, 1, none⟩ = some (.slice B5 m5 d5) := HBb.out.cells.2.1; have bl : q < wb.heap.size := HBb.out.cells.2.2.2.2; have HRb := Lib.hid HBb.out.rd; have tok3 : True := trivial; clear tok2 hgrb hob hdb)
            | (have _t := tok2; go_at_call 76; refine (l92Some_any g (K + 4501 + 1000 * k + 1) ms A5 n5 c5 (wa.alloc (.cells #[.slice none 0 0, .slice none 0 0] 31)) (r + 1) wr.heap.size (by omega) (by first | exact Nat.le_refl _ | (simp; done) | (simp; omega) | omega) hgr hn17 HQ.out.1 (HRMa.out.alloc hsa (.cells #[.slice none 0 0, .slice none 0 0] 31)) (HDa.out.2.alloc _)).mono ?_; rintro e wb ⟨ls, Ab, cb, hgrb, hlb, hob, hdb, rfl⟩; have HDb := Lib.hid ((HDa.out.alloc _).tr hdb); have HBb := Lib.hid (HB.out.draw hg0 HDb.out); have HLb : Hid (D.rd wb wa.heap.size wb.heap.size (dObjects ls) (.slice Ab ls.length cb)) := Lib.hid (hgrb.own.rd.more (by first | exact Nat.le_refl _ | (simp; done) | (simp; omega) | omega) (Nat.le_refl _)); have hsb : wa.heap.size ≤ wb.heap.size := (by have := hdb.1.size; first | exact this | (simp at this; omega)); have hxb : wb.heap[wa.heap.size]? = some (.cells #[.slice none 0 0, .slice none 0 0] 31 (0, 0)) := (hdb.1.block (wa.heap.size) (by simp) (fun e => by injection e with e; omega)).trans (heap_alloc_new wa _); have HXB := Lib.hid hxb; clear hxb; have b0 : wb.cell? ⟨q, 0, none⟩ = some (.slice A5 n5 c5) := HBb.out.cells.1; have b1 : wb.cell? ⟨q, 1, none⟩ = some (.slice B5 m5 d5) := HBb.out.cells.2.1; have bl : q < wb.heap.size := HBb.out.cells.2.2.2.2; have HRb := Lib.hid HBb.out.rd; have tokB3 : True := trivial; clear tok2 hgrb hob hdb)
            | (have _t := tokB2; go_at_call 76; refine (l92Some_any g (K + 4501 + 1000 * k + 1) ms A5 n5 c5 wa (r + 1) wr.heap.size (by omega) (by first | exact Nat.le_refl _ | (simp; done) | (simp; omega) | omega) hgr hn17 HQ.out.1 HRMa.out HDa.out.2).mono ?_; rintro e wb ⟨ls, Ab, cb, hgrb, hlb, hob, hdb, rfl⟩; have HDb := Lib.hid (HDa.out.tr hdb); have HBb := Lib.hid (HB.out.draw hg0 HDb.out); have HLb : Hid (D.rd wb wa.heap.size wb.heap.size (dObjects ls) (.slice Ab ls.length cb)) := Lib.hid (hgrb.own.rd.more (by first | exact Nat.le_refl _ | (simp; done) | (simp; omega) | omega) (Nat.le_refl _)); have hsb : wa.heap.size ≤ wb.heap.size := (by have := hdb.1.size; first | exact this | (simp at this; omega)); have HXB := Lib.hid ((hdb.1.block (wr.heap.size) (hlt_of HXB.out) (fun e => by injection e with e; omega)).trans HXB.out); have b0 : wb.cell? ⟨q, 0, none⟩ = some (.slice A5 n5 c5) := HBb.out.cells.1; have b1 : wb.cell? ⟨q, 1, none⟩ = some (.slice B5 m5 d5) := HBb.out.cells.2.1; have bl : q < wb.heap.size := HBb.out.cells.2.2.2.2; have HRb := Lib.hid HBb.out.rd; have tokC3 : True := trivial; clear tokB2 hgrb hob hdb)
            | (have _t := tok3; go_at_call 13; obtain ⟨A6, n6, c6, B6, m6, d6, e1, e2, hm6, ha6⟩ := HRb.out; injection e1 with e11 e12 e13; injection e2 with e21 e22 e23; subst e11 e12 e13 e21 e22 e23; have hl6 := HLb.out; refine (specQPut_any ms zs ra ls A5 n5 c5 B5 m5 d5 Ab ls.length cb wb (r + 1) wb.heap.size wa.heap.size wb.heap.size (by first | exact Nat.le_refl _ | (simp; done) | (simp; omega) | omega) (by first | exact Nat.le_refl _ | (simp; done) | (simp; omega) | omega) hm6 ha6 hl6).mono ?_; rintro e wc ⟨C7, n7, c7, D7, m7, d7, hq7, hb7, rfl⟩; have HDc := Lib.hid (HDb.out.fresh hb7); have HBc := Lib.hid (HB.out.draw hg0 HDc.out); have HBE := Lib.hid (BoxE.new hg0 HB.out HDc.out (hq7.low (show wr.heap.size ≤ _ by omega))); have c0 : wc.cell? ⟨q, 0, none⟩ = some (.slice A5 n5 c5) := HBc.out.cells.1; have c1 : wc.cell? ⟨q, 1, none⟩ = some (.slice B5 m5 d5) := HBc.out.cells.2.1; have cl : q < wc.heap.size := HBc.out.cells.2.2.2.2; clear tok3 hq7 hb7 hm6 ha6 hl6)
            | (have _t := tok3; go_at_call 13; obtain ⟨A6, n6, c6, B6, m6, d6, e1, e2, hm6, ha6⟩ := HRb.out; injection e1 with e11 e12 e13; injection e2 with e21 e22 e23; subst e11 e12 e13 e21 e22 e23; replace hm6 := hm6.alloc (Nat.le_refl _) (.cells #[.slice none 0 0, .slice none 0 0] 31); replace ha6 := ha6.alloc (Nat.le_refl _) (.cells #[.slice none 0 0, .slice none 0 0] 31); have hl6 := HLb.out.alloc (Nat.le_refl _) (.cells #[.slice none 0 0, .slice none 0 0] 31); refine (specQPut_any ms zs ra ls A5 n5 c5 B5 m5 d5 Ab ls.length cb (wb.alloc (.cells #[.slice none 0 0, .slice none 0 0] 31)) (r + 1) wb.heap.size wa.heap.size wb.heap.size (by first | exact Nat.le_refl _ | (simp; done) | (simp; omega) | omega) (by first | exact Nat.le_refl _ | (simp; done) | (simp; omega) | omega) hm6 ha6 hl6).mono ?_; rintro e wc ⟨C7, n7, c7, D7, m7, d7, hq7, hb7, rfl⟩; have HDc := Lib.hid ((HDb.out.alloc _).fresh hb7); have HBc := Lib.hid (HB.out.draw hg0 HDc.out); have hq8 := hq7.low (show wb.heap.size + 1 ≤ _ by simp); have hxb : wc.heap[wb.heap.size]? = some (.cells #[.slice none 0 0, .slice none 0 0] 31 (0, 0)) := (hb7.block wb.heap.size (by simp)).trans (heap_alloc_new wb _); have HXB := Lib.hid hxb; clear hxb; have hp8w : wr.heap.size ≤ wb.heap.size := (by omega); have v0 : wc.cell? ⟨wb.heap.size, 0, none⟩ = some (.slice none 0 0) := cell_of_row _ _ _ _ _ _ HXB.out; have v1 : wc.cell? ⟨wb.heap.size, 1, none⟩ = some (.slice none 0 0) := cell_of_row _ _ _ _ _ _ HXB.out; have vf0 : wc.frozen? ⟨wb.heap.size, 0, none⟩ = false := frozen_of_row _ _ _ _ _ HXB.out; have vf1 : wc.frozen? ⟨wb.heap.size, 1, none⟩ = false := frozen_of_row _ _ _ _ _ HXB.out; have vl := hlt_of HXB.out; have hpq : ¬ (wb.heap.size = q) := (by omega); have hqp : ¬ (q = wb.heap.size) := (by omega); have HBE := Lib.hid (BoxE.old hg0 HB.out HDc.out HXB.out hp8w hq8); clear hq8; have c0 : wc.cell? ⟨q, 0, none⟩ = some (.slice A5 n5 c5) := HBc.out.cells.1; have c1 : wc.cell? ⟨q, 1, none⟩ = some (.slice B5 m5 d5) := HBc.out.cells.2.1; have cl : q < wc.heap.size := HBc.out.cells.2.2.2.2; clear tok3 hq7 hb7 hm6 ha6 hl6)
            | (have _t := tokB3; go_at_call 13; obtain ⟨A6, n6, c6, B6, m6, d6, e1, e2, hm6, ha6⟩ := HRb.out; injection e1 with e11 e12 e13; injection e2 with e21 e22 e23; subst e11 e12 e13 e21 e22 e23; have hl6 := HLb.out; refine (specQPut_any ms zs ra ls A5 n5 c5 B5 m5 d5 Ab ls.length cb wb (r + 1) wb.heap.size wa.heap.size wb.heap.size (by first | exact Nat.le_refl _ | (simp; done) | (simp; omega) | omega) (by first | exact Nat.le_refl _ | (simp; done) | (simp; omega) | omega) hm6 ha6 hl6).mono ?_; rintro e wc ⟨C7, n7, c7, D7, m7, d7, hq7, hb7, rfl⟩; have HDc := Lib.hid (HDb.out.fresh hb7); have HBc := Lib.hid (HB.out.draw hg0 HDc.out); have hq8 := hq7.low (show wa.heap.size + 1 ≤ _ by have := hlt_of HXB.out; omega); have HXB := Lib.hid ((hb7.block (wa.heap.size) (hlt_of HXB.out)).trans HXB.out); have hp8w : wr.heap.size ≤ wa.heap.size := (by omega); have v0 : wc.cell? ⟨wa.heap.size, 0, none⟩ = some (.slice none 0 0) := cell_of_row _ _ _ _ _ _ HXB.out; have v1 : wc.cell? ⟨wa.heap.size, 1, none⟩ = some (.slice none 0 0) := cell_of_row _ _ _ _ _ _ HXB.out; have vf0 : wc.frozen? ⟨wa.heap.size, 0, none⟩ = false := frozen_of_row _ _ _ _ _ HXB.out; have vf1 : wc.frozen? ⟨wa.heap.size, 1, none⟩ = false := frozen_of_row _ _ _ _ _ HXB.out; have vl := hlt_of HXB.out; have hpq : ¬ (wa.heap.size = q) := (by omega); have hqp : ¬ (q = wa.heap.size) := (by omega); have HBE := Lib.hid (BoxE.old hg0 HB.out HDc.out HXB.out hp8w hq8); clear hq8; have c0 : wc.cell? ⟨q, 0, none⟩ = some (.slice A5 n5 c5) := HBc.out.cells.1; have c1 : wc.cell? ⟨q, 1, none⟩ = some (.slice B5 m5 d5) := HBc.out.cells.2.1; have cl : q < wc.heap.size := HBc.out.cells.2.2.2.2; clear tokB3 hq7 hb7 hm6 ha6 hl6)
            | (have _t := tokC3; go_at_call 13; obtain ⟨A6, n6, c6, B6, m6, d6, e1, e2, hm6, ha6⟩ := HRb.out; injection e1 with e11 e12 e13; injection e2 with e21 e22 e23; subst e11 e12 e13 e21 e22 e23; have hl6 := HLb.out; refine (specQPut_any ms zs ra ls A5 n5 c5 B5 m5 d5 Ab ls.length cb wb (r + 1) wb.heap.size wa.heap.size wb.heap.size (by first | exact Nat.le_refl _ | (simp; done) | (simp; omega) | omega) (by first | exact Nat.le_refl _ | (simp; done) | (simp; omega) | omega) hm6 ha6 hl6).mono ?_; rintro e wc ⟨C7, n7, c7, D7, m7, d7, hq7, hb7, rfl⟩; have HDc := Lib.hid (HDb.out.fresh hb7); have HBc := Lib.hid (HB.out.draw hg0 HDc.out); have hq8 := hq7.low (show wr.heap.size + 1 ≤ _ by have := hlt_of HXB.out; omega); have HXB := Lib.hid ((hb7.block (wr.heap.size) (hlt_of HXB.out)).trans HXB.out); have hp8w : wr.heap.size ≤ wr.heap.size := (by omega); have v0 : wc.cell? ⟨wr.heap.size, 0, none⟩ = some (.slice none 0 0) := cell_of_row _ _ _ _ _ _ HXB.out; have v1 : wc.cell? ⟨wr.heap.size, 1, none⟩ = some (.slice none 0 0) := cell_of_row _ _ _ _ _ _ HXB.out; have vf0 : wc.frozen? ⟨wr.heap.size, 0, none⟩ = false := frozen_of_row _ _ _ _ _ HXB.out; have vf1 : wc.frozen? ⟨wr.heap.size, 1, none⟩ = false := frozen_of_row _ _ _ _ _ HXB.out; have vl := hlt_of HXB.out; have hpq : ¬ (wr.heap.size = q) := (by omega); have hqp : ¬ (q = wr.heap.size) := (by omega); have HBE := Lib.hid (BoxE.old hg0 HB.out HDc.out HXB.out hp8w hq8); clear hq8; have c0 : wc.cell? ⟨q, 0, none⟩ = some (.slice A5 n5 c5) := HBc.out.cells.1; have c1 : wc.cell? ⟨q, 1, none⟩ = some (.slice B5 m5 d5) := HBc.out.cells.2.1; have cl : q < wc.heap.size := HBc.out.cells.2.2.2.2; clear tokC3 hq7 hb7 hm6 ha6 hl6))
        all_goals
          go_wp2_with fail
          go_meet
          exact ⟨_, _, _, _, _, _, _, _, _, rfl, rfl, HBE⟩
      case rest =>
        obtain ⟨p, C7, n7, c7, D7, m7, d7, ra, ls, rfl, rfl, HBE⟩ := hcut
        obtain ⟨w8, hw8⟩ : ∃ w8, w8 = wc := ⟨_, rfl⟩
        subst hw8
        have HB8 := Lib.hid HBE.out.1
        have HL8 : Hid (r + 1 ≤ wr.heap.size ∧ q < wr.heap.size) := Lib.hid ⟨HB.out.res.2.2.2.2, zl⟩
        have hpq : ¬ (p = q) := by have := HBE.out.2.2.1; omega
        have hqp : ¬ (q = p) := fun e => hpq e.symm
        have y0 : w8.cell? ⟨p, 0, none⟩ = some (.slice C7 n7 c7) := cell_of_row _ _ _ _ _ _ HBE.out.2.1
        have y1 : w8.cell? ⟨p, 1, none⟩ = some (.slice D7 m7 d7) := cell_of_row _ _ _ _ _ _ HBE.out.2.1
        have yl := hlt_of HBE.out.2.1
        clear z0 z1 zf0 zf1 zl
        obtain ⟨x0, x1, xf0, xf1, xl⟩ := HB8.out.cells
        rcases hpb : quaPutB ⟨ms, zs⟩ ra ls with _ | _
        · clear hpb
          go_wp2_with fail
          go_roundw
          case rel => exact ⟨k + 1, _, _, _, by omega, by go_num, HQ, hz4, HB8.out.more (by omega)⟩
          case measure => simp [intOf]; omega
        · have HGV : Hid (GoodQ (quaPut ⟨ms, zs⟩ ra ls)) := Lib.hid (GoodQ.of (quaPut_valid hpb))
          have HG4 : Hid ((quaPut ⟨ms, zs⟩ ra ls).areas.length ≤ 4) := Lib.hid ((quaB_iff _).1 (quaPut_valid hpb)).2.2
          clear hpb
          have HB9 := Lib.hid (HB8.out.put hg0 HBE.out.2.2.2 HL8.out.1 HL8.out.2)
          go_wp2_with fail
          go_roundw
          case rel => exact ⟨k + 1, _, _, _, by omega, by go_num, HGV, HG4.out, HB9.out.more (by omega)⟩
          case measure => simp [intOf]; omega
    · have hkk : k = k4 := by omega
      subst hkk
      have HBk := Lib.hid (HB.out.more (show K + 4501 + 1000 * k ≤ K + 9501 by omega))
      clear HB
      go_wp2_with fail
      refine (pick_any g (K + 9501) 20 _ (by omega) HBk.out.rdr).mono ?_
      rintro e w6 ⟨r6, hr6, hR6, hg6, -, rfl⟩
      have HB6 := Lib.hid (HBk.out.draw hg0 ⟨hg6, hR6⟩)
      have HRM6 := Lib.hid (HRM.out.grown hg6 (Nat.le_refl _) (fun x hx => by injection hx with hx; omega))
      clear hR6 hg6 hr6 HBk HRM
      have hmz : m5 = zs.length := by
        obtain ⟨A', n', c', B', m', d', e1, e2, r1, r2⟩ := HB6.out.rd
        injection e2 with e21 e22 e23
        rw [e22]; exact r2.len.1
      have hm5 : m5 ≤ 5 := by rw [hmz]; exact HQ.out.2.2.2
      by_cases h0 : r6 = 0
      · have hd : (r6 == 0) = true := by simp [h0]
        have HRD6 : Hid (Rdr w6.drew g (K + 9501 + 1)) := Lib.hid HB6.out.rdr
        obtain ⟨z0, z1, zf0, zf1, zl⟩ := HB6.out.cells
        have HZ := Lib.hid hmz
        clear h0 hmz
        go_upto_region 11 with (fail)
        have tok1 : True := trivial
        rw [show Op.load 29 (Operand.tmp 36) = loadQ 29 (Operand.tmp 36) from rfl]
        go_region_held_law (fun w' => True) (go_keep)
          (first
            | (have _t := tok1; go_at_call 67; refine (pick_any g (K + 9501 + 1) 13 w6.drew (by omega) HRD6.out).mono ?_; rintro e wa ⟨ra, -, hRa, hga', -, rfl⟩; have hda : DrawT w6 wa g (K + 9501 + 1 + 1) := ⟨⟨hga'.os, hga'.tape, hga'.output, hga'.size, hga'.block⟩, hRa⟩; have HDa := Lib.hid hda; have HBa := Lib.hid (HB6.out.draw hg0 hda); have a0 : wa.cell? ⟨q, 0, none⟩ = some (.slice A5 n5 c5) := HBa.out.cells.1; have a1 : wa.cell? ⟨q, 1, none⟩ = some (.slice B5 m5 d5) := HBa.out.cells.2.1; have al : q < wa.heap.size := HBa.out.cells.2.2.2.2; have tok2 : True := trivial; clear tok1 hRa hga' hda)
            | (have _t := tok2; go_at_call 99; refine (l91Store_any g (K + 9501 + 1 + 1) wa (by omega) HDa.out.2).mono ?_; rintro e wb ⟨ls, Ab, cb, hgrb, hlb, hob, hdb, rfl⟩; obtain ⟨vs, hrow, hdone⟩ := QuB.snoc (a := ⟨ra, ls⟩) hg0 HBa.out hdb (show Own wb wa.heap.size (dObjects ls) (.slice Ab ls.length cb) from hgrb.own); have HROW := Lib.hid hrow; have HDONE := Lib.hid hdone; have HOB := Lib.hid hob; have HBb := Lib.hid (HBa.out.draw hg0 hdb); have hlbo : ls.length ≤ 16 := hlb; have b0 : wb.cell? ⟨q, 0, none⟩ = some (.slice A5 n5 c5) := HBb.out.cells.1; have b1 : wb.cell? ⟨q, 1, none⟩ = some (.slice B5 m5 d5) := HBb.out.cells.2.1; have bl : q < wb.heap.size := HBb.out.cells.2.2.2.2; rw [← HZ.out] at HROW HDONE; have hrb : r + 1 ≤ wb.heap.size := (by have := HBb.out.res.2.2.2.2; omega); have tok3 : True := trivial; clear tok2 hgrb hob hdb hrow hdone)
            | (have _t := tok3; refine step_app_at Try.elArea (m := 1) (HROW.out.alloc _) (rd_newn (n := wb.heap.size) rfl [.int .i64 ra, .slice Ab ls.length cb] 69) rfl (by simp [Value.oneCell']) (by unfold maxLen; omega) (by omega) (by first | omega | (simp; done) | (simp; omega)) rfl rfl rfl rfl ?_; intro vd wd hownd hgd hatd; obtain ⟨V7, c7, rfl, -, -, -⟩ := Rd.of_own hownd; have hfin := HDONE.out _ _ _ hownd hgd hatd; have HXd := Lib.hid hfin.1; have HBd := Lib.hid hfin.2; have d0 := cell_of_row _ _ 0 _ _ _ hfin.1; have d1 := cell_of_row _ _ 1 _ _ _ hfin.1; have df1 := frozen_of_row _ _ 1 _ _ hfin.1; have dl := hlt_of hfin.1; clear tok3 hownd hgd hatd hfin))
        all_goals
          obtain ⟨x0, x1, xf0, xf1, xl⟩ := HBd.out.cells
          obtain ⟨y0, y1, yf0, yf1, yl⟩ := HBd.out.res
          have hrq : ¬ (r = q) := HBd.out.2.2.2.1
          have hqr : ¬ (q = r) := fun e => hrq e.symm
          have HGQ : Hid (GoodQ ⟨ms, zs ++ [⟨ra, ls⟩]⟩) := Lib.hid ⟨HQ.out.1, HQ.out.2.1, fun a ha => (List.mem_append.1 ha).elim (HQ.out.2.2.1 a) (fun h => by rw [List.mem_singleton.1 h]; exact ⟨HOB.out, hlbo⟩), by simp; omega⟩
          go_wp2_with fail
          refine bodyPost_ret (v := .agg #[.slice A5 n5 c5, .slice V7 (m5 + 1) c7]) (by simp [results, Try.results65, go_sem, d0, d1, x0, x1, hrq, hqr, y0, y1, yf0, yf1]) rfl ?_
          exact (QuB.fin hg0 HBd.out HGQ.out _ _).more (by omega)
      · have hd : (r6 == 0) = false := by simp [h0]
        clear h0 hmz
        by_cases h1 : r6 = 1
        · have hd1 : (r6 == 1) = true := by simp [h1]
          clear h1
          go_wp2_with fail
          refine (l91Spoilt_any g (K + 9502) w6 (by omega) (HB6.out.rdr.more (by omega))).mono ?_
          rintro e w7 ⟨os7, A7, n7, c7, hrd7, hn7, ho7, hd7, rfl⟩
          have HB7 := Lib.hid (HB6.out.draw hg0 hd7)
          have HR7 := Lib.hid hrd7
          have HO7 := Lib.hid ho7
          obtain ⟨z0, z1, zf0, zf1, zl⟩ := HB7.out.cells
          obtain ⟨y0, y1, yf0, yf1, yl⟩ := HB7.out.res
          have hrq : ¬ (r = q) := HB7.out.2.2.2.1
          have hqr : ¬ (q = r) := fun e => hrq e.symm
          have HQL : Hid (q < w6.heap.size ∧ r < w6.heap.size) := Lib.hid ⟨HB6.out.cells.2.2.2.2, HB6.out.res.2.2.2.2⟩
          have HGQ : Hid (GoodQ ⟨os7, zs⟩) := Lib.hid ⟨HO7.out, by show os7.length ≤ 17; rw [← HR7.out.len.1]; exact hn7, HQ.out.2.2.1, HQ.out.2.2.2⟩
          have hrw2 : w.heap.size ≤ q := HB7.out.2.2.2.2.1
          clear hrd7 ho7 hd7
          go_wp2_with fail
          refine bodyPost_ret (v := .agg #[.slice A7 n7 c7, .slice B5 m5 d5]) (by simp [results, Try.results65, go_sem, z0, z1, hrq, hqr, y0, y1, yf0, yf1]) rfl ?_
          exact (QuB.fin2 hg0 HB7.out HR7.out HQL.out.1 HQL.out.2 HGQ.out _ _).more (by omega)
        · have hd1 : (r6 == 1) = false := by simp [h1]
          clear h1
          obtain ⟨z0, z1, zf0, zf1, zl⟩ := HB6.out.cells
          obtain ⟨y0, y1, yf0, yf1, yl⟩ := HB6.out.res
          have hrq : ¬ (r = q) := HB6.out.2.2.2.1
          have hqr : ¬ (q = r) := fun e => hrq e.symm
          go_wp2_with fail
          refine bodyPost_ret (v := .agg #[.slice A5 n5 c5, .slice B5 m5 d5]) (by simp [results, Try.results65, go_sem, z0, z1, hrq, hqr, y0, y1, yf0, yf1]) rfl ?_
          exact (QuB.fin hg0 HB6.out HQ.out _ _).more (by omega)

end Go.Proofs.Ytgpjcmplnigmcaa
