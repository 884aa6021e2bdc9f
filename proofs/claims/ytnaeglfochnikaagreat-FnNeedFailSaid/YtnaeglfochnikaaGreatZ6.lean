/-
  append onto a row of the call's own, with where the new slice lies: in the old block or in a new one. Plain law over any program.
  The walk of slices.Clone at a slice of ints, as data of its own. Condition: few elements.
  append onto a row of the call's own, as one step of a region that draws its order. Plain law over any program.
  Quarantines in plain Lean: which are valid, and what putting, promoting and discarding gives. No program in sight.
-/
import Derived.Test.YtnaeglfochnikaaGreatZ4
import Derived.Maps.AppendAt
import Derived.Test.YtnaeglfochnikaaGreatZ5
import Derived.StillTailTactics
import Derived.Deep.RegionLaw
import Derived.Test.YtnaeglfochnikaaGreatZ2
namespace Go.Proofs.YtnaeglfochnikaaGreat
set_option linter.unusedVariables false
set_option linter.unusedSimpArgs false
open Go.RowKit

theorem rd_newn {w : World} {n : Nat} (h : w.heap.size = n) (cs : List Value) (e : TypeId) : Rd (w.alloc (.cells cs.toArray e)) n (n + 1) (some ⟨n, 0, none⟩) cs := by
  subst h; exact rd_new w cs e

theorem run_app_at {P : Program} {w : World} {t e ty : TypeId} {z : Value} {size bytes base n m c lo hi : Nat} {A : Option Addr} {v : Value} {cs news : List Value} (E : ElemT P t e z size bytes)
    (hown : w.ownsRow base e size v n cs) (hr : Rd w lo hi A news) (hl : news.length = m * size) (h1 : ∀ u ∈ news, u.oneCell' = true) (h63 : n + m ≤ maxLen) (hbytes : (n + m) * bytes ≤ 140737488355328) (hbase : base ≤ w.heap.size) :
    ∃ v' w', (Builtin.append_ #[t, t] ty #[v, .slice A m c]).run P w = .ok v' w' ∧ w'.ownsRow base e size v' (n + m) (cs ++ news) ∧ w.grownBy w' v.ownBlock ∧ (v'.ownBlock = v.ownBlock ∨ v'.ownBlock = some w.heap.size) := by
  obtain ⟨i, hi, hz, hz1, hz2⟩ := info_parts E.info
  by_cases hne : news = []
  · subst hne
    have hm : m = 0 := by
      rcases Nat.eq_zero_or_pos m with h0 | h0
      · exact h0
      · have := Nat.mul_pos h0 E.pos
        simp at hl; omega
    subst hm
    rcases A with _ | ad
    · refine ⟨v, w, ?_, by simpa using hown, World.grownBy.refl w _, .inl rfl⟩
      rcases hown.2 with ⟨rfl, rfl⟩ | ⟨g, cap, cur, rfl, _, _, hnc, _⟩
      · simp [Builtin.append_, run_underlying E.under, sizeOf, typeInfo, hi, Builtin.lenOf, Builtin.firstCells]
      · simp [Builtin.append_, run_underlying E.under, sizeOf, typeInfo, hi, Builtin.lenOf, Builtin.firstCells, hnc, storeCells]
    · obtain ⟨v', w', hrun, h2, h3, _, h5⟩ := run_append_own_at (P := P) w base t ty e i z size bytes E.under hi hz hz1 hz2 E.cells E.pos v n cs hown ad 0 c [] (by simp) (by simp) (by simp) h63 hbytes hbase
      exact ⟨v', w', hrun, h2, h3, h5⟩
  · obtain ⟨b, o, rfl, _, _, hc⟩ := hr hne
    obtain ⟨v', w', hrun, h2, h3, _, h5⟩ := run_append_own_at (P := P) w base t ty e i z size bytes E.under hi hz hz1 hz2 E.cells E.pos v n cs hown ⟨b, o, none⟩ m c news hl (fun j u hu => by
      have e2 : (⟨b, o, none⟩ : Addr).add j = ⟨b, o + j, none⟩ := by
        unfold Addr.add
        by_cases hj : j = 0 <;> simp [hj]
      rw [e2]; exact hc j u hu) h1 h63 hbytes hbase
    exact ⟨v', w', hrun, h2, h3, h5⟩

theorem wpList_app_at {P : Program} {w : World} {ops : Array Oper} {rest : List Oper} {o : Oper} {a : Act} {Q : Exit → Act → World → Prop} {s x : Operand} {t e : TypeId} {z : Value} {size bytes base n m c lo hi : Nat} {A : Option Addr} {v : Value} {cs news : List Value}
    (E : ElemT P t e z size bytes) (hown : w.ownsRow base e size v n cs) (hr : Rd w lo hi A news) (hl : news.length = m * size) (h1 : ∀ u ∈ news, u.oneCell' = true) (h63 : n + m ≤ maxLen) (hbytes : (n + m) * bytes ≤ 140737488355328) (hbase : base ≤ w.heap.size)
    (hgd : Region.wanted o (yielded ops a.tmps) = true) (ho : o.op = .call { callee := .builtin .append, args := #[s, x], argTypes := #[t, t] }) (hs : a.eval s = v) (hx : a.eval x = .slice A m c)
    (h : ∀ v' w', w'.ownsRow base e size v' (n + m) (cs ++ news) → w.grownBy w' v.ownBlock → (v'.ownBlock = v.ownBlock ∨ v'.ownBlock = some w.heap.size) → wpList P ops Q rest (a.put o.dst v') w') : wpList P ops Q (o :: rest) a w :=
  wpList_step fun K hK => by
    rw [if_pos hgd]
    obtain ⟨v', w', hr, h2, h3, h5⟩ := run_app_at (P := P) (ty := o.type) (c := c) E hown hr hl h1 h63 hbytes hbase
    unfold Oper.wp execOp
    simp only [ho, resolve, invoke, builtin, Sem.run_bind, Sem.run_pure, Result.andThen_ok, List.map_toArray, List.map_cons, List.map_nil, hs, hx, hr]
    exact hK _ _ (h v' w' h2 h3 h5)

theorem step_app_at {P : Program} {w : World} {ops : Array Oper} {o : Oper} {a : Act} {K : Act → World → Prop} {Q : Exit → Act → World → Prop} {E' : Prop} {s x : Operand} {t e : TypeId} {z : Value} {size bytes base n m c lo hi : Nat} {A : Option Addr} {v : Value} {cs news : List Value}
    (E : ElemT P t e z size bytes) (hown : w.ownsRow base e size v n cs) (hr : Rd w lo hi A news) (hl : news.length = m * size) (h1 : ∀ u ∈ news, u.oneCell' = true) (h63 : n + m ≤ maxLen) (hbytes : (n + m) * bytes ≤ 140737488355328) (hbase : base ≤ w.heap.size)
    (hgd : o.guard = none) (ho : o.op = .call { callee := .builtin .append, args := #[s, x], argTypes := #[t, t] }) (hs : a.eval s = v) (hx : a.eval x = .slice A m c)
    (h : ∀ v' w', w'.ownsRow base e size v' (n + m) (cs ++ news) → w.grownBy w' v.ownBlock → (v'.ownBlock = v.ownBlock ∨ v'.ownBlock = some w.heap.size) → K (a.put o.dst v') w') :
    if Region.wanted o (yielded ops a.tmps) = true then Oper.wp P o a w K Q else E' := by
  have hw : Region.wanted o (yielded ops a.tmps) = true := by simp [Region.wanted, hgd]
  rw [if_pos hw]
  obtain ⟨v', w', hr, h2, h3, h5⟩ := run_app_at (P := P) (ty := o.type) (c := c) E hown hr hl h1 h63 hbytes hbase
  unfold Oper.wp execOp
  simp only [ho, resolve, invoke, builtin, Sem.run_bind, Sem.run_pure, Result.andThen_ok, List.map_toArray, List.map_cons, List.map_nil, hs, hx, hr]
  exact h _ _ h2 h3 h5

end Go.Proofs.YtnaeglfochnikaaGreat

namespace Go.Proofs.YtnaeglfochnikaaGreat
set_option linter.unusedVariables false
set_option linter.unusedSimpArgs false
open Go.RowKit

theorem Tryz.elI : ElemT Tryz.prog 23 3 (.int .i64 0) 1 8 := ⟨Tryz.underlying23, by kernel_rfl, rfl, by decide⟩

set_option maxRecDepth 100000 in
set_option maxHeartbeats 800000 in
theorem cloneInt_row (xs : List Int) (A : Option Addr) (n c : Nat) (w : World) (lo hi : Nat) (hh : hi ≤ w.heap.size) (hn : n ≤ 1048576) (h : Ints w lo hi A n xs) :
    Calls Tryz.prog 64 #[.slice A n c] w fun e w' => ∃ (B : Option Addr) (d : Nat), w'.ownsRow w.heap.size 3 1 (.slice B n d) n (xs.flatMap ci) ∧ Below w.heap.size w w' ∧ e = .returned (.slice B n d) := by
  have HX := Lib.hid h
  have hxl := Lib.hid h.1
  have qT : ∀ (w : World) (a : Option Addr) (n c n' c' : Nat), (binOp .eql 23 (.slice a n c) (.slice none n' c')).run Tryz.prog w = .ok (.bool a.isNone) w := fun w a n c n' c' => Lib.run_eql_slice_nil w _ _ a n c n' c' Tryz.underlying23
  clear h
  rcases A with _ | ad
  · have hx0 : xs = [] := by
      rcases hxs : xs with _ | ⟨x, l⟩
      · rfl
      · obtain ⟨b, o, e, _⟩ := HX.out.2 (by rw [hxs]; simp [ci])
        cases e
    have hn0 : n = 0 := by rw [← hxl.out, hx0]; rfl
    subst hx0 hn0
    go_enter Tryz.func64, Tryz.ntmps64
    go_wp2_with fail
    go_ret
    exact ⟨_, _, World.ownsRow_nil _ _ _ _, Below.refl _ _, rfl⟩
  · have hown0 := Lib.hid (own_nil_lit w 3 1)
    go_enter Tryz.func64, Tryz.ntmps64
    go_wp2_with (at_builtin; go_must (refine wpList_app Tryz.elI hown0.out (HX.out.2.alloc hh _) (by rw [flat_len ci 1 ci_len, hxl.out]) (by rw [flat_ci]; simp [Value.oneCell']) (by unfold maxLen; omega) (by omega) (by simp) rfl rfl rfl rfl ?_); intro v2 w2 hown2 hg2)
    rw [Nat.zero_add, List.nil_append] at hown2
    have HO := Lib.hid hown2
    have HB := Lib.hid (below_app ((Below.refl w.heap.size w).alloc (Nat.le_refl _) (.cells #[] 3)) (Nat.le_refl _) (by simp) hown0.out hg2)
    clear hown2 hg2
    obtain ⟨B, d, rfl, -, -, -⟩ := Rd.of_own HO.out
    go_ret
    exact ⟨B, d, HO.out, HB.out, rfl⟩

theorem cloneInt_d (xs : List Int) (A : Option Addr) (n c : Nat) (w : World) (lo hi : Nat) (hh : hi ≤ w.heap.size) (hn : n ≤ 1048576) (h : D.rd w lo hi (intsD xs) (.slice A n c)) :
    Calls Tryz.prog 64 #[.slice A n c] w fun e w' => ∃ (B : Option Addr) (d : Nat), Own w' w.heap.size (intsD xs) (.slice B n d) ∧ Below w.heap.size w w' ∧ e = .returned (.slice B n d) :=
  (cloneInt_row xs A n c w lo hi hh hn h.ints).mono fun _ _ ⟨B, d, h1, h2, h3⟩ => ⟨B, d, own_ints h1, h2, h3⟩

end Go.Proofs.YtnaeglfochnikaaGreat

namespace Go.Proofs.YtnaeglfochnikaaGreat
set_option linter.unusedVariables false
set_option linter.unusedSimpArgs false
open Go.RowKit

theorem step_app {P : Program} {w : World} {ops : Array Oper} {o : Oper} {a : Act} {K : Act → World → Prop} {Q : Exit → Act → World → Prop} {E' : Prop} {s x : Operand} {t e : TypeId} {z : Value} {size bytes base n m c lo hi : Nat} {A : Option Addr} {v : Value} {cs news : List Value}
    (E : ElemT P t e z size bytes) (hown : w.ownsRow base e size v n cs) (hr : Rd w lo hi A news) (hl : news.length = m * size) (h1 : ∀ u ∈ news, u.oneCell' = true) (h63 : n + m ≤ maxLen) (hbytes : (n + m) * bytes ≤ 140737488355328) (hbase : base ≤ w.heap.size)
    (hgd : o.guard = none) (ho : o.op = .call { callee := .builtin .append, args := #[s, x], argTypes := #[t, t] }) (hs : a.eval s = v) (hx : a.eval x = .slice A m c)
    (h : ∀ v' w', w'.ownsRow base e size v' (n + m) (cs ++ news) → w.grownBy w' v.ownBlock → K (a.put o.dst v') w') :
    if Region.wanted o (yielded ops a.tmps) = true then Oper.wp P o a w K Q else E' := by
  have hw : Region.wanted o (yielded ops a.tmps) = true := by simp [Region.wanted, hgd]
  rw [if_pos hw]
  obtain ⟨v', w', hr, h2, h3⟩ := run_app (P := P) (ty := o.type) (c := c) E hown hr hl h1 h63 hbytes hbase
  unfold Oper.wp execOp
  simp only [ho, resolve, invoke, builtin, Sem.run_bind, Sem.run_pure, Result.andThen_ok, List.map_toArray, List.map_cons, List.map_nil, hs, hx, hr]
  exact h _ _ h2 h3

end Go.Proofs.YtnaeglfochnikaaGreat

namespace Go.Proofs.YtnaeglfochnikaaGreat
set_option linter.unusedVariables false
set_option linter.unusedSimpArgs false
open Go.RowKit

structure AreaD where
  txn : Int
  objs : List ObjD
structure QuaD where
  main : List ObjD
  areas : List AreaD
def noArea : AreaD := ⟨0, []⟩
def txnB (t : Int) : Bool := inR t 0 11
def fullB (os : List ObjD) : Bool := decide (0 < os.length) && storeB os
def areaAt (zs : List AreaD) (k : Nat) : Bool := txnB (zs.getD k noArea).txn && fullB (zs.getD k noArea).objs && (decide (k = 0) || decide ((zs.getD (k - 1) noArea).txn < (zs.getD k noArea).txn))
def quaB (q : QuaD) : Bool := allTo (areaAt q.areas) q.areas.length && storeB q.main && decide (q.areas.length ≤ 4)
/-- strictly ascending transactions -/
def AscA (zs : List AreaD) : Prop := zs.Pairwise fun a b => a.txn < b.txn
theorem arAt {zs : List AreaD} {k : Nat} (h : k < zs.length) : zs.getD k noArea = zs[k] := by rw [List.getD_eq_getElem?_getD, List.getElem?_eq_getElem h]; rfl
theorem areaAt_iff {zs : List AreaD} {k : Nat} (h : k < zs.length) : areaAt zs k = true ↔ txnB zs[k].txn = true ∧ fullB zs[k].objs = true ∧ (k = 0 ∨ (zs[k - 1]'(by omega)).txn < zs[k].txn) := by
  unfold areaAt
  rw [arAt h, arAt (show k - 1 < zs.length by omega)]
  simp [and_assoc]
theorem fullB_iff (os : List ObjD) : fullB os = true ↔ os ≠ [] ∧ storeB os = true := by
  unfold fullB
  rw [Bool.and_eq_true, decide_eq_true_eq, List.length_pos_iff]
theorem areas_iff (zs : List AreaD) : allTo (areaAt zs) zs.length = true ↔ (∀ a ∈ zs, txnB a.txn = true ∧ fullB a.objs = true) ∧ AscA zs := by
  unfold AscA
  rw [allTo_iff, List.pairwise_iff_getElem]
  constructor
  · intro h1
    refine ⟨fun o ho => ?_, ?_⟩
    · obtain ⟨k, hk, rfl⟩ := List.getElem_of_mem ho
      have := (areaAt_iff hk).1 (h1 k hk)
      exact ⟨this.1, this.2.1⟩
    · intro i j hi hj hij
      induction j with
      | zero => omega
      | succ j ih =>
        have h3 := ((areaAt_iff hj).1 (h1 _ hj)).2.2
        simp only [Nat.add_sub_cancel] at h3
        rcases h3 with h3 | h3
        · omega
        · rcases Nat.lt_or_ge i j with h | h
          · have := ih (by omega) h; omega
          · have : i = j := by omega
            subst this; exact h3
  · rintro ⟨h1, h2⟩ k hk
    have h3 := h1 _ (List.getElem_mem hk)
    refine (areaAt_iff hk).2 ⟨h3.1, h3.2, ?_⟩
    rcases Nat.eq_zero_or_pos k with h | h
    · exact .inl h
    · exact .inr (h2 (k - 1) k (by omega) hk (by omega))
theorem quaB_iff (q : QuaD) : quaB q = true ↔ ((∀ a ∈ q.areas, txnB a.txn = true ∧ fullB a.objs = true) ∧ AscA q.areas) ∧ storeB q.main = true ∧ q.areas.length ≤ 4 := by
  unfold quaB
  rw [Bool.and_eq_true, Bool.and_eq_true, areas_iff, decide_eq_true_eq, and_assoc]
theorem quaB_no {q : QuaD} {k : Nat} (h : k < q.areas.length) (h1 : areaAt q.areas k = false) : quaB q = false := by unfold quaB; rw [allTo_no h h1]; simp
theorem quaB_all {q : QuaD} {n : Nat} (hn : q.areas.length = n) (h : allTo (areaAt q.areas) n = true) : quaB q = (storeB q.main && decide (n ≤ 4)) := by unfold quaB; rw [hn, h, Bool.true_and]

/-- two lists in strict order with the same members are the same -/
theorem asc_ext : ∀ {a b : List AreaD}, AscA a → AscA b → (∀ x, x ∈ a ↔ x ∈ b) → a = b
  | [], [], _, _, _ => rfl
  | [], y :: b, _, _, h => by have := (h y).2 List.mem_cons_self; cases this
  | x :: a, [], _, _, h => by have := (h x).1 List.mem_cons_self; cases this
  | x :: a, y :: b, ha, hb, h => by
    unfold AscA at ha hb
    rw [List.pairwise_cons] at ha hb
    have e : x = y := by
      rcases List.mem_cons.1 ((h x).1 List.mem_cons_self) with e | h1
      · exact e
      · rcases List.mem_cons.1 ((h y).2 List.mem_cons_self) with e | h2
        · exact e.symm
        · have := ha.1 y h2; have := hb.1 x h1; omega
    subst e
    have : a = b := asc_ext ha.2 hb.2 fun z => by
      constructor
      · intro hz
        rcases List.mem_cons.1 ((h z).1 (List.mem_cons_of_mem _ hz)) with e | h1
        · subst e; have := ha.1 z hz; omega
        · exact h1
      · intro hz
        rcases List.mem_cons.1 ((h z).2 (List.mem_cons_of_mem _ hz)) with e | h1
        · subst e; have := hb.1 z hz; omega
        · exact h1
    rw [this]

/-- the objects of a transaction -/
def areaO (zs : List AreaD) (t : Int) : Option (List ObjD) := (zs.find? fun a => decide (a.txn = t)).map (·.objs)
def areaL (zs : List AreaD) (t : Int) : List ObjD := (areaO zs t).getD []
theorem areaO_mem {zs : List AreaD} (h : AscA zs) (t : Int) (os : List ObjD) : areaO zs t = some os ↔ (⟨t, os⟩ : AreaD) ∈ zs := by
  unfold areaO
  induction zs with
  | nil => simp
  | cons a zs ih =>
    unfold AscA at h
    obtain ⟨h1, h2⟩ := List.pairwise_cons.1 h
    by_cases e : a.txn = t
    · rw [List.find?_cons_of_pos (by simpa using e)]
      simp only [Option.map_some, Option.some.injEq, List.mem_cons]
      constructor
      · rintro rfl; left; rw [← e]
      · rintro (h3 | h3)
        · rw [← h3]
        · have := h1 _ h3; simp only at this; omega
    · rw [List.find?_cons_of_neg (by simpa using e), ih h2, List.mem_cons]
      constructor
      · exact .inr
      · rintro (h3 | h3)
        · rw [← h3] at e; exact absurd rfl e
        · exact h3
theorem areaO_none {zs : List AreaD} {t : Int} : areaO zs t = none ↔ ∀ a ∈ zs, a.txn ≠ t := by
  unfold areaO; simp

/-- the areas of a map by transaction, in order -/
def mapA (C : Int → Option (List ObjD)) : List AreaD := (List.range 12).filterMap fun (i : Nat) => (C i).map fun os => (⟨(i : Int), os⟩ : AreaD)
theorem mapA_mem (C : Int → Option (List ObjD)) (a : AreaD) : a ∈ mapA C ↔ txnB a.txn = true ∧ C a.txn = some a.objs := by
  unfold mapA txnB
  rw [inR_iff]
  simp only [List.mem_filterMap, List.mem_range, Option.map_eq_some_iff]
  constructor
  · rintro ⟨i, hi, os, h, rfl⟩
    exact ⟨⟨by simp, by simp; omega⟩, h⟩
  · rintro ⟨⟨h1, h2⟩, h3⟩
    refine ⟨a.txn.toNat, by omega, a.objs, ?_, ?_⟩
    · rw [show ((a.txn.toNat : Nat) : Int) = a.txn by omega]; exact h3
    · rw [show ((a.txn.toNat : Nat) : Int) = a.txn by omega]
theorem mapA_asc (C : Int → Option (List ObjD)) : AscA (mapA C) := by
  unfold mapA AscA
  rw [List.pairwise_filterMap]
  refine List.Pairwise.imp ?_ List.pairwise_lt_range
  intro i j hij a ha b hb
  obtain ⟨os, -, rfl⟩ := Option.map_eq_some_iff.1 ha
  obtain ⟨os', -, rfl⟩ := Option.map_eq_some_iff.1 hb
  simp only
  omega
theorem mapA_areaO {zs : List AreaD} (h : AscA zs) (ht : ∀ a ∈ zs, txnB a.txn = true) : mapA (areaO zs) = zs :=
  asc_ext (mapA_asc _) h fun x => by
    rw [mapA_mem]
    constructor
    · rintro ⟨_, h2⟩; exact (areaO_mem h _ _).1 h2
    · intro hx; exact ⟨ht x hx, (areaO_mem h _ _).2 hx⟩

/-- one step of setting an area -/
def setStep (t : Int) (l : List ObjD) (s : List AreaD × Bool) (a : AreaD) : List AreaD × Bool :=
  (s.1 ++ (if s.2 = false ∧ t ≤ a.txn then [⟨t, l⟩] else []) ++ (if a.txn = t then [] else [a]), s.2 || decide (t ≤ a.txn))
def setTo (zs : List AreaD) (t : Int) (l : List ObjD) (k : Nat) : List AreaD × Bool := (zs.take k).foldl (setStep t l) ([], decide (l.length = 0))
def setA (zs : List AreaD) (t : Int) (l : List ObjD) : List AreaD :=
  (setTo zs t l zs.length).1 ++ (if (setTo zs t l zs.length).2 = false then [⟨t, l⟩] else [])
theorem setTo_zero (zs : List AreaD) (t : Int) (l : List ObjD) : setTo zs t l 0 = ([], decide (l.length = 0)) := rfl
theorem setTo_succ {zs : List AreaD} (t : Int) (l : List ObjD) {k : Nat} (hk : k < zs.length) : setTo zs t l (k + 1) = setStep t l (setTo zs t l k) zs[k] := by
  unfold setTo
  rw [List.take_succ_eq_append_getElem hk, List.foldl_append]; rfl
theorem setStep_len (t : Int) (l : List ObjD) (s : List AreaD × Bool) (a : AreaD) : (setStep t l s a).1.length ≤ s.1.length + 2 := by
  unfold setStep
  simp only [List.length_append]
  split <;> split <;> simp
/-- the areas before and behind a transaction, and the new one between -/
def midA (zs : List AreaD) (t : Int) (l : List ObjD) : List AreaD :=
  zs.filter (fun a => decide (a.txn < t)) ++ (if l = [] then [] else [⟨t, l⟩]) ++ zs.filter (fun a => decide (t < a.txn))
theorem snoc_ind {α : Type} {P : List α → Prop} (h0 : P []) (h1 : ∀ xs a, P xs → P (xs ++ [a])) (xs : List α) : P xs := by
  have h : ∀ ys : List α, P ys.reverse := by
    intro ys
    induction ys with
    | nil => exact h0
    | cons a ys ih => rw [List.reverse_cons]; exact h1 _ a ih
  have := h xs.reverse
  rwa [List.reverse_reverse] at this
theorem setTo_mid (t : Int) (l : List ObjD) (e : Bool) (xs : List AreaD) : AscA xs →
    xs.foldl (setStep t l) ([], e) =
      (xs.filter (fun a => decide (a.txn < t)) ++ (if e = false ∧ xs.any (fun a => decide (t ≤ a.txn)) = true then [⟨t, l⟩] else []) ++ xs.filter (fun a => decide (t < a.txn)), e || xs.any (fun a => decide (t ≤ a.txn))) := by
  refine snoc_ind (P := fun xs => AscA xs → xs.foldl (setStep t l) ([], e) =
      (xs.filter (fun a => decide (a.txn < t)) ++ (if e = false ∧ xs.any (fun a => decide (t ≤ a.txn)) = true then [⟨t, l⟩] else []) ++ xs.filter (fun a => decide (t < a.txn)), e || xs.any (fun a => decide (t ≤ a.txn)))) ?_ ?_ xs
  · intro _; simp
  · intro xs a ih h
    have hx : AscA xs := by unfold AscA at h ⊢; exact (List.pairwise_append.1 h).1
    have hlt : ∀ b ∈ xs, b.txn < a.txn := fun b hb => by
      unfold AscA at h
      exact (List.pairwise_append.1 h).2.2 b hb a (by simp)
    rw [List.foldl_append, ih hx]
    simp only [List.foldl_cons, List.foldl_nil, setStep, List.filter_append, List.any_append, List.any_cons, List.any_nil, Bool.or_false]
    rcases hg : xs.any (fun a => decide (t ≤ a.txn)) with _ | _
    · have e1 : xs.filter (fun b => decide (t < b.txn)) = [] := by
        rw [List.filter_eq_nil_iff]
        intro b hb
        rw [List.any_eq_false] at hg
        have := hg b hb
        simp only [decide_eq_true_eq] at this ⊢
        omega
      rw [e1]
      rcases Int.lt_trichotomy a.txn t with h1 | h1 | h1
      · rcases e with _ | _ <;> simp [h1, show ¬ a.txn = t by omega, show ¬ t < a.txn by omega, show ¬ t ≤ a.txn by omega]
      · subst h1
        rcases e with _ | _ <;> simp
      · rcases e with _ | _ <;> simp [h1, show ¬ a.txn = t by omega, show ¬ a.txn < t by omega, show t ≤ a.txn by omega]
    · have h1 : t < a.txn := by
        rw [List.any_eq_true] at hg
        obtain ⟨b, hb, hb2⟩ := hg
        have := hlt b hb
        simp only [decide_eq_true_eq] at hb2
        omega
      rcases e with _ | _ <;> simp [h1, show ¬ a.txn = t by omega, show ¬ a.txn < t by omega, show t ≤ a.txn by omega]
theorem setA_mid {zs : List AreaD} (h : AscA zs) (t : Int) (l : List ObjD) : setA zs t l = midA zs t l := by
  unfold setA setTo midA
  rw [List.take_of_length_le (Nat.le_refl _), setTo_mid t l _ zs h]
  by_cases hl : l = []
  · simp [hl]
  · have hl2 : decide (l.length = 0) = false := by simp [hl]
    rw [hl2, if_neg hl]
    rcases hg : zs.any (fun a => decide (t ≤ a.txn)) with _ | _
    · have e1 : zs.filter (fun b => decide (t < b.txn)) = [] := by
        rw [List.filter_eq_nil_iff]
        intro b hb
        rw [List.any_eq_false] at hg
        have := hg b hb
        simp only [decide_eq_true_eq] at this ⊢
        omega
      simp [e1]
    · simp
theorem midA_mem (zs : List AreaD) (t : Int) (l : List ObjD) (x : AreaD) : x ∈ midA zs t l ↔ (x ∈ zs ∧ x.txn ≠ t) ∨ (l ≠ [] ∧ x = ⟨t, l⟩) := by
  unfold midA
  simp only [List.mem_append, List.mem_filter, decide_eq_true_eq]
  by_cases hl : l = []
  · simp only [hl, if_true, List.not_mem_nil, or_false, ne_eq, not_true_eq_false, false_and]
    constructor
    · rintro (⟨h1, h2⟩ | ⟨h1, h2⟩) <;> exact ⟨h1, by omega⟩
    · rintro ⟨h1, h2⟩
      rcases Int.lt_or_gt_of_ne h2 with h3 | h3
      · exact .inl ⟨h1, h3⟩
      · exact .inr ⟨h1, h3⟩
  · rw [if_neg hl]
    simp only [List.mem_singleton, ne_eq, hl, not_false_eq_true, true_and]
    constructor
    · rintro ((⟨h1, h2⟩ | h1) | ⟨h1, h2⟩)
      · exact .inl ⟨h1, by omega⟩
      · exact .inr h1
      · exact .inl ⟨h1, by omega⟩
    · rintro (⟨h1, h2⟩ | h1)
      · rcases Int.lt_or_gt_of_ne h2 with h3 | h3
        · exact .inl (.inl ⟨h1, h3⟩)
        · exact .inr ⟨h1, h3⟩
      · exact .inl (.inr h1)
theorem midA_asc {zs : List AreaD} (h : AscA zs) (t : Int) (l : List ObjD) : AscA (midA zs t l) := by
  unfold midA AscA at *
  rw [List.pairwise_append, List.pairwise_append]
  refine ⟨⟨h.filter _, ?_, ?_⟩, h.filter _, ?_⟩
  · split <;> simp
  · intro a ha b hb
    simp only [List.mem_filter, decide_eq_true_eq] at ha
    split at hb
    · cases hb
    · simp at hb; subst hb; exact ha.2
  · intro a ha b hb
    simp only [List.mem_filter, decide_eq_true_eq] at hb
    rcases List.mem_append.1 ha with ha | ha
    · simp only [List.mem_filter, decide_eq_true_eq] at ha; omega
    · split at ha
      · cases ha
      · simp at ha; subst ha; exact hb.2
theorem setA_areaO {zs : List AreaD} (h : AscA zs) (t u : Int) (l : List ObjD) : areaO (setA zs t l) u = if u = t then (if l = [] then none else some l) else areaO zs u := by
  rw [setA_mid h]
  refine Option.ext fun os => ?_
  rw [areaO_mem (midA_asc h t l), midA_mem]
  by_cases hu : u = t
  · subst hu
    simp only [ne_eq, not_true_eq_false, and_false, false_or, if_true]
    by_cases hl : l = []
    · simp [hl]
    · simp [hl, eq_comm]
  · rw [if_neg hu, areaO_mem h]
    simp [hu]
/-- what the map gives that the program turns -/
theorem mapA_set {zs : List AreaD} (h : AscA zs) (ht : ∀ a ∈ zs, txnB a.txn = true) {t : Int} (htx : txnB t = true) (l : List ObjD) (hl : l ≠ []) : mapA (fun i => if i = t then some l else areaO zs i) = setA zs t l := by
  rw [setA_mid h]
  refine asc_ext (mapA_asc _) (midA_asc h t l) fun x => ?_
  rw [mapA_mem, midA_mem]
  constructor
  · rintro ⟨h1, h2⟩
    by_cases hx : x.txn = t
    · rw [if_pos hx] at h2
      injection h2 with h2
      refine .inr ⟨hl, ?_⟩
      rw [← hx, h2]
    · rw [if_neg hx] at h2
      exact .inl ⟨(areaO_mem h _ _).1 h2, hx⟩
  · rintro (⟨h1, h2⟩ | ⟨_, rfl⟩)
    · exact ⟨ht x h1, by rw [if_neg h2]; exact (areaO_mem h _ _).2 h1⟩
    · exact ⟨htx, by simp⟩
theorem mapA_del {zs : List AreaD} (h : AscA zs) (ht : ∀ a ∈ zs, txnB a.txn = true) (t : Int) : mapA (fun i => if i = t then none else areaO zs i) = setA zs t [] := by
  rw [setA_mid h]
  refine asc_ext (mapA_asc _) (midA_asc h t []) fun x => ?_
  rw [mapA_mem, midA_mem]
  simp only [ne_eq, not_true_eq_false, false_and, or_false]
  constructor
  · rintro ⟨h1, h2⟩
    by_cases hx : x.txn = t
    · rw [if_pos hx] at h2; cases h2
    · rw [if_neg hx] at h2
      exact ⟨(areaO_mem h _ _).1 h2, hx⟩
  · rintro ⟨h1, h2⟩
    exact ⟨ht x h1, by rw [if_neg h2]; exact (areaO_mem h _ _).2 h1⟩

/-- how many areas there are when one is set -/
theorem asc_len {zs : List AreaD} (h : AscA zs) (t : Int) : zs.length = (zs.filter (fun a => decide (a.txn < t))).length + (zs.filter (fun a => decide (t < a.txn))).length + (if (areaO zs t).isSome = true then 1 else 0) := by
  unfold areaO
  induction zs with
  | nil => rfl
  | cons a zs ih =>
    have h' : AscA zs := by unfold AscA at h ⊢; exact (List.pairwise_cons.1 h).2
    have h1 : ∀ b ∈ zs, a.txn < b.txn := by unfold AscA at h; exact (List.pairwise_cons.1 h).1
    have := ih h'
    rw [List.length_cons, this]
    rcases Int.lt_trichotomy a.txn t with h2 | h2 | h2
    · rw [List.filter_cons_of_pos (by simpa using h2), List.filter_cons_of_neg (by simp; omega), List.find?_cons_of_neg (by simp; omega), List.length_cons]
      omega
    · have hn : zs.find? (fun a => decide (a.txn = t)) = none := by
        rw [List.find?_eq_none]; intro b hb; have := h1 b hb; simp; omega
      rw [List.filter_cons_of_neg (by simp; omega), List.filter_cons_of_neg (by simp; omega), List.find?_cons_of_pos (by simpa using h2), hn]
      simp
    · rw [List.filter_cons_of_neg (by simp; omega), List.filter_cons_of_pos (by simpa using h2), List.find?_cons_of_neg (by simp; omega), List.length_cons]
      omega
theorem setA_len {zs : List AreaD} (h : AscA zs) (t : Int) (l : List ObjD) : (setA zs t l).length + (if (areaO zs t).isSome = true then 1 else 0) = zs.length + (if l = [] then 0 else 1) := by
  rw [setA_mid h, asc_len h t]
  unfold midA
  simp only [List.length_append]
  split <;> split <;> simp <;> omega
/-- an area that was not there is set and removed -/
theorem setA_back {zs : List AreaD} (h : AscA zs) (t : Int) (l : List ObjD) (hn : areaO zs t = none) : setA (setA zs t l) t [] = zs := by
  have h2 : AscA (setA zs t l) := by rw [setA_mid h]; exact midA_asc h t l
  rw [setA_mid h2]
  refine asc_ext (midA_asc h2 t []) h fun x => ?_
  rw [midA_mem, setA_mid h, midA_mem]
  rw [areaO_none] at hn
  simp only [ne_eq, not_true_eq_false, false_and, or_false]
  constructor
  · rintro ⟨h3 | ⟨_, rfl⟩, h4⟩
    · exact h3.1
    · exact absurd rfl h4
  · intro hx
    exact ⟨.inl ⟨hx, hn x hx⟩, hn x hx⟩
theorem setA_none {zs : List AreaD} (h : AscA zs) (t : Int) (hn : areaO zs t = none) : setA zs t [] = zs := by
  rw [setA_mid h]
  refine asc_ext (midA_asc h t []) h fun x => ?_
  rw [midA_mem]
  rw [areaO_none] at hn
  simp only [ne_eq, not_true_eq_false, false_and, or_false]
  exact ⟨fun h => h.1, fun hx => ⟨hx, hn x hx⟩⟩
theorem setA_valid {q : QuaD} {t : Int} {l m : List ObjD} (h : quaB q = true) (ht : txnB t = true) (hl : l = [] ∨ fullB l = true) (hm : storeB m = true) (hn : l = [] ∨ (areaO q.areas t).isSome = true ∨ q.areas.length < 4) : quaB ⟨m, setA q.areas t l⟩ = true := by
  obtain ⟨⟨h1, h2⟩, h3, h4⟩ := (quaB_iff _).1 h
  refine (quaB_iff _).2 ⟨⟨?_, ?_⟩, hm, ?_⟩
  · intro a ha
    dsimp only at ha
    rw [setA_mid h2, midA_mem] at ha
    rcases ha with ⟨ha, _⟩ | ⟨hne, rfl⟩
    · exact h1 a ha
    · exact ⟨ht, hl.resolve_left hne⟩
  · dsimp only
    rw [setA_mid h2]; exact midA_asc h2 t l
  · have := setA_len h2 t l
    dsimp only
    rcases hn with hn | hn | hn
    · rw [if_pos hn] at this; omega
    · rw [if_pos hn] at this; split at this <;> omega
    · split at this <;> split at this <;> omega

/-- the area that a put makes -/
def newA (q : QuaD) (t : Int) (l : List ObjD) : List ObjD := (allP (areaL q.areas t) l).1
def putOk (q : QuaD) (t : Int) (l : List ObjD) : Bool :=
  (allP (areaL q.areas t) l).2 && (allP q.main (newA q t l)).2 && !(decide (areaO q.areas t = none) && decide (4 ≤ q.areas.length))
def zQua : QuaD := ⟨[], []⟩
instance (os : Option (List ObjD)) : Decidable (os = none) := match os with
  | none => isTrue rfl
  | some _ => isFalse (fun h => nomatch h)
def putIn (q : QuaD) (t : Int) (l : List ObjD) : Bool := quaB q && txnB t && fullB l
def quaPut (q : QuaD) (t : Int) (l : List ObjD) : QuaD :=
  if putIn q t l = true then (if putOk q t l = true then ⟨q.main, setA q.areas t (newA q t l)⟩ else q) else zQua
def quaPutB (q : QuaD) (t : Int) (l : List ObjD) : Bool := putIn q t l && putOk q t l
def proIn (q : QuaD) (t : Int) : Bool := quaB q && txnB t
def proOk (q : QuaD) (t : Int) : Bool := (areaO q.areas t).isSome && (allP q.main (areaL q.areas t)).2
def quaPro (q : QuaD) (t : Int) : QuaD :=
  if proIn q t = true then (if proOk q t = true then ⟨(allP q.main (areaL q.areas t)).1, setA q.areas t []⟩ else q) else zQua
def quaProB (q : QuaD) (t : Int) : Bool := proIn q t && proOk q t
def quaDis (q : QuaD) (t : Int) : QuaD := if proIn q t = true then ⟨q.main, setA q.areas t []⟩ else zQua
def quaDisB (q : QuaD) (t : Int) : Bool := proIn q t && (areaO q.areas t).isSome

end Go.Proofs.YtnaeglfochnikaaGreat
