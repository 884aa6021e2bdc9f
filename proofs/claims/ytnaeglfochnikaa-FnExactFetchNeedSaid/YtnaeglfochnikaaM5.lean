/-
  append onto a row of the call's own, with where the new slice lies: in the old block or in a new one. Plain law over any program.
  The walk of slices.Clone at a slice of ints, as data of its own. Condition: few elements.
  append onto a row of the call's own, as one step of a region that draws its order. Plain law over any program.
  Stores of objects in plain Lean: which lists are stores; what storing one object, or several, gives. No program in sight.
-/
import Derived.Test.YtnaeglfochnikaaM2
import Derived.Maps.AppendAt
import Derived.Test.YtnaeglfochnikaaM4
import Derived.StillTailTactics
import Derived.Deep.RegionLaw
namespace Go.Proofs.Ytnaeglfochnikaa
set_option linter.unusedVariables false
set_option linter.unusedSimpArgs false
open Go.RowKit

theorem rd_newn {w : World} {n : Nat} (h : w.heap.size = n) (cs : List Value) (e : TypeId) : Rd (w.alloc (.cells cs.toArray e)) n (n + 1) (some ⟨n, 0, none⟩) cs := by
  subst h; exact rd_new w cs e

theorem run_app_at {P : Program} {w : World} {t e ty : TypeId} {z : Value} {size bytes base n m c lo hi : Nat} {A : Option Addr} {v : Value} {cs news : List Value} (E : ElemT P t e z size bytes)
    (hown : w.ownsRow base e size v n cs) (hr : Rd w lo hi A news) (hl : news.length = m * size) (h1 : ∀ u ∈ news, u.oneCell' = true) (h63 : n + m ≤ maxLen) (hbytes : (n + m) * bytes ≤ 140737488355328) (hbase : base ≤ w.heap.size) :
    ∃ v' w', (Builtin.append_ #[t, t] ty #[v, .slice A m c]).run P w = .ok v' w' ∧ w'.ownsRow base e size v' (n + m) (cs ++ news) ∧ w.grownBy w' v.ownBlock ∧ (v'.ownBlock = v.ownBlock ∨ v'.ownBlock = some w.heap.size) := by
  obtain ⟨i, hi, hz, hz1, hz2⟩ := info_parts E.info
  by_cases hne : news = []
  · subst hne
    have hm : m = 0 := by
      rcases Nat.eq_zero_or_pos m with h0 | h0
      · exact h0
      · have := Nat.mul_pos h0 E.pos
        simp at hl; omega
    subst hm
    rcases A with _ | ad
    · refine ⟨v, w, ?_, by simpa using hown, World.grownBy.refl w _, .inl rfl⟩
      rcases hown.2 with ⟨rfl, rfl⟩ | ⟨g, cap, cur, rfl, _, _, hnc, _⟩
      · simp [Builtin.append_, run_underlying E.under, sizeOf, typeInfo, hi, Builtin.lenOf, Builtin.firstCells]
      · simp [Builtin.append_, run_underlying E.under, sizeOf, typeInfo, hi, Builtin.lenOf, Builtin.firstCells, hnc, storeCells]
    · obtain ⟨v', w', hrun, h2, h3, _, h5⟩ := run_append_own_at (P := P) w base t ty e i z size bytes E.under hi hz hz1 hz2 E.cells E.pos v n cs hown ad 0 c [] (by simp) (by simp) (by simp) h63 hbytes hbase
      exact ⟨v', w', hrun, h2, h3, h5⟩
  · obtain ⟨b, o, rfl, _, _, hc⟩ := hr hne
    obtain ⟨v', w', hrun, h2, h3, _, h5⟩ := run_append_own_at (P := P) w base t ty e i z size bytes E.under hi hz hz1 hz2 E.cells E.pos v n cs hown ⟨b, o, none⟩ m c news hl (fun j u hu => by
      have e2 : (⟨b, o, none⟩ : Addr).add j = ⟨b, o + j, none⟩ := by
        unfold Addr.add
        by_cases hj : j = 0 <;> simp [hj]
      rw [e2]; exact hc j u hu) h1 h63 hbytes hbase
    exact ⟨v', w', hrun, h2, h3, h5⟩

theorem wpList_app_at {P : Program} {w : World} {ops : Array Oper} {rest : List Oper} {o : Oper} {a : Act} {Q : Exit → Act → World → Prop} {s x : Operand} {t e : TypeId} {z : Value} {size bytes base n m c lo hi : Nat} {A : Option Addr} {v : Value} {cs news : List Value}
    (E : ElemT P t e z size bytes) (hown : w.ownsRow base e size v n cs) (hr : Rd w lo hi A news) (hl : news.length = m * size) (h1 : ∀ u ∈ news, u.oneCell' = true) (h63 : n + m ≤ maxLen) (hbytes : (n + m) * bytes ≤ 140737488355328) (hbase : base ≤ w.heap.size)
    (hgd : Region.wanted o (yielded ops a.tmps) = true) (ho : o.op = .call { callee := .builtin .append, args := #[s, x], argTypes := #[t, t] }) (hs : a.eval s = v) (hx : a.eval x = .slice A m c)
    (h : ∀ v' w', w'.ownsRow base e size v' (n + m) (cs ++ news) → w.grownBy w' v.ownBlock → (v'.ownBlock = v.ownBlock ∨ v'.ownBlock = some w.heap.size) → wpList P ops Q rest (a.put o.dst v') w') : wpList P ops Q (o :: rest) a w :=
  wpList_step fun K hK => by
    rw [if_pos hgd]
    obtain ⟨v', w', hr, h2, h3, h5⟩ := run_app_at (P := P) (ty := o.type) (c := c) E hown hr hl h1 h63 hbytes hbase
    unfold Oper.wp execOp
    simp only [ho, resolve, invoke, builtin, Sem.run_bind, Sem.run_pure, Result.andThen_ok, List.map_toArray, List.map_cons, List.map_nil, hs, hx, hr]
    exact hK _ _ (h v' w' h2 h3 h5)

theorem step_app_at {P : Program} {w : World} {ops : Array Oper} {o : Oper} {a : Act} {K : Act → World → Prop} {Q : Exit → Act → World → Prop} {E' : Prop} {s x : Operand} {t e : TypeId} {z : Value} {size bytes base n m c lo hi : Nat} {A : Option Addr} {v : Value} {cs news : List Value}
    (E : ElemT P t e z size bytes) (hown : w.ownsRow base e size v n cs) (hr : Rd w lo hi A news) (hl : news.length = m * size) (h1 : ∀ u ∈ news, u.oneCell' = true) (h63 : n + m ≤ maxLen) (hbytes : (n + m) * bytes ≤ 140737488355328) (hbase : base ≤ w.heap.size)
    (hgd : o.guard = none) (ho : o.op = .call { callee := .builtin .append, args := #[s, x], argTypes := #[t, t] }) (hs : a.eval s = v) (hx : a.eval x = .slice A m c)
    (h : ∀ v' w', w'.ownsRow base e size v' (n + m) (cs ++ news) → w.grownBy w' v.ownBlock → (v'.ownBlock = v.ownBlock ∨ v'.ownBlock = some w.heap.size) → K (a.put o.dst v') w') :
    if Region.wanted o (yielded ops a.tmps) = true then Oper.wp P o a w K Q else E' := by
  have hw : Region.wanted o (yielded ops a.tmps) = true := by simp [Region.wanted, hgd]
  rw [if_pos hw]
  obtain ⟨v', w', hr, h2, h3, h5⟩ := run_app_at (P := P) (ty := o.type) (c := c) E hown hr hl h1 h63 hbytes hbase
  unfold Oper.wp execOp
  simp only [ho, resolve, invoke, builtin, Sem.run_bind, Sem.run_pure, Result.andThen_ok, List.map_toArray, List.map_cons, List.map_nil, hs, hx, hr]
  exact h _ _ h2 h3 h5

end Go.Proofs.Ytnaeglfochnikaa

namespace Go.Proofs.Ytnaeglfochnikaa
set_option linter.unusedVariables false
set_option linter.unusedSimpArgs false
open Go.RowKit

theorem Try.elI : ElemT Try.prog 23 3 (.int .i64 0) 1 8 := ⟨Try.underlying23, by kernel_rfl, rfl, by decide⟩

set_option maxRecDepth 100000 in
set_option maxHeartbeats 800000 in
theorem cloneInt_row (xs : List Int) (A : Option Addr) (n c : Nat) (w : World) (lo hi : Nat) (hh : hi ≤ w.heap.size) (hn : n ≤ 1048576) (h : Ints w lo hi A n xs) :
    Calls Try.prog 48 #[.slice A n c] w fun e w' => ∃ (B : Option Addr) (d : Nat), w'.ownsRow w.heap.size 3 1 (.slice B n d) n (xs.flatMap ci) ∧ Below w.heap.size w w' ∧ e = .returned (.slice B n d) := by
  have HX := Lib.hid h
  have hxl := Lib.hid h.1
  have qT : ∀ (w : World) (a : Option Addr) (n c n' c' : Nat), (binOp .eql 23 (.slice a n c) (.slice none n' c')).run Try.prog w = .ok (.bool a.isNone) w := fun w a n c n' c' => Lib.run_eql_slice_nil w _ _ a n c n' c' Try.underlying23
  clear h
  rcases A with _ | ad
  · have hx0 : xs = [] := by
      rcases hxs : xs with _ | ⟨x, l⟩
      · rfl
      · obtain ⟨b, o, e, _⟩ := HX.out.2 (by rw [hxs]; simp [ci])
        cases e
    have hn0 : n = 0 := by rw [← hxl.out, hx0]; rfl
    subst hx0 hn0
    go_enter Try.func48, Try.ntmps48
    go_wp2_with fail
    go_ret
    exact ⟨_, _, World.ownsRow_nil _ _ _ _, Below.refl _ _, rfl⟩
  · have hown0 := Lib.hid (own_nil_lit w 3 1)
    go_enter Try.func48, Try.ntmps48
    go_wp2_with (at_builtin; go_must (refine wpList_app Try.elI hown0.out (HX.out.2.alloc hh _) (by rw [flat_len ci 1 ci_len, hxl.out]) (by rw [flat_ci]; simp [Value.oneCell']) (by unfold maxLen; omega) (by omega) (by simp) rfl rfl rfl rfl ?_); intro v2 w2 hown2 hg2)
    rw [Nat.zero_add, List.nil_append] at hown2
    have HO := Lib.hid hown2
    have HB := Lib.hid (below_app ((Below.refl w.heap.size w).alloc (Nat.le_refl _) (.cells #[] 3)) (Nat.le_refl _) (by simp) hown0.out hg2)
    clear hown2 hg2
    obtain ⟨B, d, rfl, -, -, -⟩ := Rd.of_own HO.out
    go_ret
    exact ⟨B, d, HO.out, HB.out, rfl⟩

theorem cloneInt_d (xs : List Int) (A : Option Addr) (n c : Nat) (w : World) (lo hi : Nat) (hh : hi ≤ w.heap.size) (hn : n ≤ 1048576) (h : D.rd w lo hi (intsD xs) (.slice A n c)) :
    Calls Try.prog 48 #[.slice A n c] w fun e w' => ∃ (B : Option Addr) (d : Nat), Own w' w.heap.size (intsD xs) (.slice B n d) ∧ Below w.heap.size w w' ∧ e = .returned (.slice B n d) :=
  (cloneInt_row xs A n c w lo hi hh hn h.ints).mono fun _ _ ⟨B, d, h1, h2, h3⟩ => ⟨B, d, own_ints h1, h2, h3⟩

end Go.Proofs.Ytnaeglfochnikaa

namespace Go.Proofs.Ytnaeglfochnikaa
set_option linter.unusedVariables false
set_option linter.unusedSimpArgs false
open Go.RowKit

theorem step_app {P : Program} {w : World} {ops : Array Oper} {o : Oper} {a : Act} {K : Act → World → Prop} {Q : Exit → Act → World → Prop} {E' : Prop} {s x : Operand} {t e : TypeId} {z : Value} {size bytes base n m c lo hi : Nat} {A : Option Addr} {v : Value} {cs news : List Value}
    (E : ElemT P t e z size bytes) (hown : w.ownsRow base e size v n cs) (hr : Rd w lo hi A news) (hl : news.length = m * size) (h1 : ∀ u ∈ news, u.oneCell' = true) (h63 : n + m ≤ maxLen) (hbytes : (n + m) * bytes ≤ 140737488355328) (hbase : base ≤ w.heap.size)
    (hgd : o.guard = none) (ho : o.op = .call { callee := .builtin .append, args := #[s, x], argTypes := #[t, t] }) (hs : a.eval s = v) (hx : a.eval x = .slice A m c)
    (h : ∀ v' w', w'.ownsRow base e size v' (n + m) (cs ++ news) → w.grownBy w' v.ownBlock → K (a.put o.dst v') w') :
    if Region.wanted o (yielded ops a.tmps) = true then Oper.wp P o a w K Q else E' := by
  have hw : Region.wanted o (yielded ops a.tmps) = true := by simp [Region.wanted, hgd]
  rw [if_pos hw]
  obtain ⟨v', w', hr, h2, h3⟩ := run_app (P := P) (ty := o.type) (c := c) E hown hr hl h1 h63 hbytes hbase
  unfold Oper.wp execOp
  simp only [ho, resolve, invoke, builtin, Sem.run_bind, Sem.run_pure, Result.andThen_ok, List.map_toArray, List.map_cons, List.map_nil, hs, hx, hr]
  exact h _ _ h2 h3

end Go.Proofs.Ytnaeglfochnikaa

namespace Go.Proofs.Ytnaeglfochnikaa
set_option linter.unusedVariables false
set_option linter.unusedSimpArgs false
open Go.RowKit

def zObj : ObjD := ⟨0, [], ByteArray.empty⟩
def storeAt (os : List ObjD) (k : Nat) : Bool := objB (os.getD k zObj) && (decide (k = 0) || decide (idB (os.getD (k - 1) zObj) < idB (os.getD k zObj)))
def storeB (os : List ObjD) : Bool := allTo (storeAt os) os.length && decide (os.length ≤ 16)
/-- strictly ascending ids -/
def AscO (os : List ObjD) : Prop := os.Pairwise fun a b => idB a < idB b
theorem objAt {os : List ObjD} {k : Nat} (h : k < os.length) : os.getD k zObj = os[k] := by rw [List.getD_eq_getElem?_getD, List.getElem?_eq_getElem h]; rfl
theorem storeAt_iff {os : List ObjD} {k : Nat} (h : k < os.length) : storeAt os k = true ↔ objB os[k] = true ∧ (k = 0 ∨ idB (os[k - 1]'(by omega)) < idB os[k]) := by
  unfold storeAt
  rw [objAt h, objAt (show k - 1 < os.length by omega)]
  simp
theorem storeB_iff (os : List ObjD) : storeB os = true ↔ (∀ o ∈ os, objB o = true) ∧ AscO os ∧ os.length ≤ 16 := by
  unfold storeB AscO
  rw [Bool.and_eq_true, allTo_iff, decide_eq_true_eq, List.pairwise_iff_getElem]
  constructor
  · rintro ⟨h1, h2⟩
    refine ⟨fun o ho => ?_, ?_, h2⟩
    · obtain ⟨k, hk, rfl⟩ := List.getElem_of_mem ho
      exact ((storeAt_iff hk).1 (h1 k hk)).1
    · intro i j hi hj hij
      induction j with
      | zero => omega
      | succ j ih =>
        have h3 := ((storeAt_iff hj).1 (h1 _ hj)).2
        simp only [Nat.add_sub_cancel] at h3
        rcases h3 with h3 | h3
        · omega
        · rcases Nat.lt_or_ge i j with h | h
          · have := ih (by omega) h; omega
          · have : i = j := by omega
            subst this; exact h3
  · rintro ⟨h1, h2, h3⟩
    refine ⟨fun k hk => (storeAt_iff hk).2 ⟨h1 _ (List.getElem_mem hk), ?_⟩, h3⟩
    rcases Nat.eq_zero_or_pos k with h | h
    · exact .inl h
    · exact .inr (h2 (k - 1) k (by omega) hk (by omega))
theorem storeB_no {os : List ObjD} {k : Nat} (h : k < os.length) (h1 : storeAt os k = false) : storeB os = false := by unfold storeB; rw [allTo_no h h1]; rfl
theorem storeB_big {os : List ObjD} (h : 16 < os.length) : storeB os = false := by unfold storeB; rw [decide_eq_false (by omega : ¬ os.length ≤ 16), Bool.and_false]
theorem storeB_all {os : List ObjD} {n : Nat} (hn : os.length = n) (h : allTo (storeAt os) n = true) : storeB os = decide (n ≤ 16) := by unfold storeB; rw [hn, h, Bool.true_and]
theorem storeB_nil : storeB [] = true := rfl

/-- two objects are equal -/
def sameB (a b : ObjD) : Bool := decide (a.kind = b.kind) && decide (a.links = b.links) && (a.text.data.toList == b.text.data.toList)
theorem sameB_iff (a b : ObjD) : sameB a b = true ↔ a = b := by
  unfold sameB
  obtain ⟨k, l, ⟨⟨t⟩⟩⟩ := a
  obtain ⟨k', l', ⟨⟨t'⟩⟩⟩ := b
  simp [and_assoc]

/-- how many objects come ahead of an id -/
def plc (os : List ObjD) (n : Int) : Nat := (os.takeWhile fun o => decide (idB o < n)).length
theorem plc_le (os : List ObjD) (n : Int) : plc os n ≤ os.length := by
  unfold plc
  exact (List.takeWhile_sublist _).length_le
theorem plc_lt {os : List ObjD} {n : Int} {k : Nat} (h : k < plc os n) : idB (os[k]'(Nat.lt_of_lt_of_le h (plc_le os n))) < n := by
  induction os generalizing k with
  | nil => unfold plc at h; simp at h
  | cons o os ih =>
    by_cases hd : idB o < n
    · rcases k with _ | k
      · exact hd
      · refine ih (k := k) ?_
        unfold plc at h ⊢
        simpa [List.takeWhile_cons, hd] using h
    · unfold plc at h
      simp [List.takeWhile_cons, hd] at h
theorem plc_ge {os : List ObjD} {n : Int} (h : plc os n < os.length) : n ≤ idB os[plc os n] := by
  unfold plc at h ⊢
  induction os with
  | nil => simp at h
  | cons o os ih =>
    by_cases hd : idB o < n
    · simp only [List.takeWhile_cons, decide_eq_true hd, if_true, List.length_cons] at h ⊢
      simpa using ih (by simpa using h)
    · simp only [List.takeWhile_cons, decide_eq_false hd] at h ⊢
      simp; omega
theorem plc_eq {os : List ObjD} {n : Int} {k : Nat} (hk : k ≤ os.length) (h1 : ∀ j (h : j < k), idB (os[j]'(by omega)) < n) (h2 : ∀ h : k < os.length, n ≤ idB os[k]) : plc os n = k := by
  rcases Nat.lt_trichotomy (plc os n) k with h | h | h
  · have := plc_ge (os := os) (n := n) (by omega)
    have := h1 _ h; omega
  · exact h
  · have hl : k < os.length := Nat.lt_of_lt_of_le h (plc_le os n)
    have := plc_lt h
    have := h2 hl; omega

def fndB (os : List ObjD) (n : Int) : Bool := if h : plc os n < os.length then decide (idB os[plc os n] = n) else false
/-- whether an object can be stored -/
def putB (os : List ObjD) (o : ObjD) : Bool := if fndB os (idB o) = true then sameB (os.getD (plc os (idB o)) zObj) o else decide (os.length < 16)
/-- .. and what the store is then -/
def putL (os : List ObjD) (o : ObjD) : List ObjD :=
  if fndB os (idB o) = true then os else if os.length < 16 then os.take (plc os (idB o)) ++ o :: os.drop (plc os (idB o)) else os
theorem fndB_iff (os : List ObjD) (n : Int) : fndB os n = true ↔ ∃ h : plc os n < os.length, idB os[plc os n] = n := by
  unfold fndB
  split
  · simp [*]
  · simp [*]
theorem fndB_mem {os : List ObjD} {n : Int} (h : fndB os n = true) : ∃ o ∈ os, idB o = n := by
  obtain ⟨h1, h2⟩ := (fndB_iff _ _).1 h
  exact ⟨_, List.getElem_mem h1, h2⟩
theorem fndB_not {os : List ObjD} {n : Int} (ha : AscO os) (h : fndB os n = false) : ∀ o ∈ os, idB o ≠ n := by
  intro o ho e
  obtain ⟨k, hk, rfl⟩ := List.getElem_of_mem ho
  have h1 : plc os n ≤ k := by
    rcases Nat.lt_or_ge k (plc os n) with h | h
    · have := plc_lt h; omega
    · exact h
  have h2 := plc_ge (os := os) (n := n) (by omega)
  have h3 : ¬ idB (os[plc os n]'(by omega)) = n := by
    intro e2
    have := (fndB_iff os n).2 ⟨by omega, e2⟩
    rw [h] at this; cases this
  unfold AscO at ha
  rw [List.pairwise_iff_getElem] at ha
  rcases Nat.lt_or_ge (plc os n) k with h4 | h4
  · have := ha (plc os n) k (by omega) hk h4; omega
  · have : k = plc os n := by omega
    subst this; exact h3 e
theorem putB_found {os : List ObjD} {o : ObjD} (h : fndB os (idB o) = true) (hp : putB os o = true) : o ∈ os ∧ putL os o = os := by
  obtain ⟨h1, h2⟩ := (fndB_iff _ _).1 h
  unfold putB at hp
  rw [if_pos h, objAt h1, sameB_iff] at hp
  refine ⟨by rw [← hp]; exact List.getElem_mem h1, ?_⟩
  unfold putL
  rw [if_pos h]
theorem putB_new {os : List ObjD} {o : ObjD} (h : fndB os (idB o) = false) (hp : putB os o = true) : os.length < 16 ∧ putL os o = os.take (plc os (idB o)) ++ o :: os.drop (plc os (idB o)) := by
  unfold putB at hp
  rw [if_neg (by rw [h]; simp), decide_eq_true_eq] at hp
  refine ⟨hp, ?_⟩
  unfold putL
  rw [if_neg (by rw [h]; simp), if_pos hp]
theorem putL_no {os : List ObjD} {o : ObjD} (h : putB os o = false) : putL os o = os := by
  unfold putL
  unfold putB at h
  split
  · rfl
  · rename_i hf
    rw [if_neg hf, decide_eq_false_iff_not] at h
    rw [if_neg h]
theorem putL_mem {os : List ObjD} {o : ObjD} (hp : putB os o = true) (p : ObjD) : p ∈ putL os o ↔ p ∈ os ∨ p = o := by
  rcases hf : fndB os (idB o) with _ | _
  · rw [(putB_new hf hp).2]
    have e : p ∈ os ↔ p ∈ os.take (plc os (idB o)) ∨ p ∈ os.drop (plc os (idB o)) := by
      rw [← List.mem_append, List.take_append_drop]
    rw [e]
    simp only [List.mem_append, List.mem_cons]
    constructor
    · rintro (h | h | h)
      · exact .inl (.inl h)
      · exact .inr h
      · exact .inl (.inr h)
    · rintro ((h | h) | h)
      · exact .inl h
      · exact .inr (.inr h)
      · exact .inr (.inl h)
  · obtain ⟨h1, h2⟩ := putB_found hf hp
    rw [h2]
    constructor
    · exact .inl
    · rintro (h | rfl)
      · exact h
      · exact h1
theorem putL_asc {os : List ObjD} {o : ObjD} (ha : AscO os) : AscO (putL os o) := by
  rcases hp : putB os o with _ | _
  · rw [putL_no hp]; exact ha
  · rcases hf : fndB os (idB o) with _ | _
    · rw [(putB_new hf hp).2]
      have hn := fndB_not ha hf
      have hk := plc_le os (idB o)
      have hd : ∀ p ∈ os.drop (plc os (idB o)), idB o < idB p := by
        intro p hp
        obtain ⟨j, hj, rfl⟩ := List.getElem_of_mem hp
        rw [List.length_drop] at hj
        rw [List.getElem_drop]
        have h1 := plc_ge (os := os) (n := idB o) (by omega)
        have h2 := hn _ (List.getElem_mem (show plc os (idB o) + j < os.length by omega))
        rcases Nat.eq_zero_or_pos j with h | h
        · subst h
          simp only [Nat.add_zero] at h2 ⊢
          omega
        · unfold AscO at ha
          rw [List.pairwise_iff_getElem] at ha
          have := ha (plc os (idB o)) (plc os (idB o) + j) (by omega) (by omega) (by omega)
          omega
      have ht : ∀ p ∈ os.take (plc os (idB o)), idB p < idB o := by
        intro p hp
        obtain ⟨j, hj, rfl⟩ := List.getElem_of_mem hp
        rw [List.length_take] at hj
        rw [List.getElem_take]
        exact plc_lt (by omega)
      unfold AscO at ha ⊢
      rw [List.pairwise_append, List.pairwise_cons]
      refine ⟨ha.sublist (List.take_sublist _ _), ⟨hd, ha.sublist (List.drop_sublist _ _)⟩, ?_⟩
      intro a h1 b h2
      have h3 := ht a h1
      rcases List.mem_cons.1 h2 with rfl | h2
      · exact h3
      · have := hd b h2; omega
    · rw [(putB_found hf hp).2]; exact ha
theorem putL_len {os : List ObjD} {o : ObjD} : os.length ≤ (putL os o).length ∧ (putL os o).length ≤ os.length + 1 ∧ (os.length ≤ 16 → (putL os o).length ≤ 16) := by
  unfold putL
  split
  · exact ⟨Nat.le_refl _, by omega, fun h => h⟩
  · split
    · have := plc_le os (idB o)
      simp only [List.length_append, List.length_take, List.length_cons, List.length_drop]
      refine ⟨by omega, by omega, fun _ => by omega⟩
    · exact ⟨Nat.le_refl _, by omega, fun h => h⟩
theorem putL_objs {os : List ObjD} {o : ObjD} (h : ∀ p ∈ os, objB p = true) (ho : objB o = true) : ∀ p ∈ putL os o, objB p = true := by
  rcases hp : putB os o with _ | _
  · rw [putL_no hp]; exact h
  · intro p hm
    rcases (putL_mem hp p).1 hm with h1 | rfl
    · exact h p h1
    · exact ho
theorem putL_store {os : List ObjD} {o : ObjD} (h : storeB os = true) (ho : objB o = true) : storeB (putL os o) = true := by
  obtain ⟨h1, h2, h3⟩ := (storeB_iff _).1 h
  exact (storeB_iff _).2 ⟨putL_objs h1 ho, putL_asc h2, putL_len.2.2 h3⟩

/-- objects are stored one after the other -/
def allP : List ObjD → List ObjD → List ObjD × Bool
  | s, [] => (s, true)
  | s, o :: l => if putB s o = true then allP (putL s o) l else ([], false)
theorem allP_app (a b : List ObjD) : ∀ (s : List ObjD), allP s (a ++ b) = if (allP s a).2 = true then allP (allP s a).1 b else ([], false) := by
  induction a with
  | nil => intro s; simp [allP]
  | cons o a ih =>
    intro s
    simp only [List.cons_append, allP]
    by_cases h : putB s o = true
    · simp only [h, if_true]; exact ih _
    · simp [h]
theorem allP_step {s l : List ObjD} {k : Nat} (hk : k < l.length) (h : (allP s (l.take k)).2 = true) (h2 : putB (allP s (l.take k)).1 l[k] = true) : allP s (l.take (k + 1)) = (putL (allP s (l.take k)).1 l[k], true) := by
  rw [List.take_succ_eq_append_getElem hk, allP_app, if_pos h, allP, if_pos h2, allP]
theorem allP_fail {s l : List ObjD} {k : Nat} (hk : k < l.length) (h : (allP s (l.take k)).2 = true) (h2 : putB (allP s (l.take k)).1 l[k] = false) : allP s l = ([], false) := by
  have e : l = l.take k ++ l[k] :: l.drop (k + 1) := by
    rw [← List.drop_eq_getElem_cons hk, List.take_append_drop]
  have h3 := allP_app (l.take k) (l[k] :: l.drop (k + 1)) s
  rw [← e, if_pos h, allP, if_neg (by rw [h2]; simp)] at h3
  exact h3
theorem allP_inv {P : List ObjD → Prop} (l : List ObjD) (hstep : ∀ s o, P s → o ∈ l → putB s o = true → P (putL s o)) : ∀ s, P s → (allP s l).2 = true → P (allP s l).1 := by
  induction l with
  | nil => intro s h _; exact h
  | cons o l ih =>
    intro s h hb
    simp only [allP] at hb ⊢
    by_cases hp : putB s o = true
    · rw [if_pos hp] at hb ⊢
      exact ih (fun s p hs hm => hstep s p hs (List.mem_cons_of_mem _ hm)) _ (hstep s o h List.mem_cons_self hp) hb
    · rw [if_neg hp] at hb; cases hb
theorem allP_no {s l : List ObjD} (h : (allP s l).2 = false) : (allP s l).1 = [] := by
  induction l generalizing s with
  | nil => cases h
  | cons o l ih =>
    simp only [allP] at h ⊢
    by_cases hp : putB s o = true
    · rw [if_pos hp] at h ⊢
      exact ih h
    · rw [if_neg hp]
theorem allP_store {s l : List ObjD} (h : storeB s = true) (hl : ∀ o ∈ l, objB o = true) : storeB (allP s l).1 = true := by
  rcases hb : (allP s l).2 with _ | _
  · rw [allP_no hb]; rfl
  · exact allP_inv (P := fun s => storeB s = true) l (fun s o hs hm _ => putL_store hs (hl o hm)) s h hb
theorem allP_len (s l : List ObjD) : (allP s l).1.length ≤ s.length + l.length := by
  induction l generalizing s with
  | nil => exact Nat.le_refl _
  | cons o l ih =>
    simp only [allP]
    by_cases hp : putB s o = true
    · rw [if_pos hp]
      have := ih (putL s o)
      have := (putL_len (os := s) (o := o)).2.1
      simp only [List.length_cons]
      omega
    · rw [if_neg hp]; simp
theorem allP_ge {s l : List ObjD} (h : (allP s l).2 = true) : s.length ≤ (allP s l).1.length :=
  allP_inv (P := fun t => s.length ≤ t.length) l (fun t o ht _ _ => Nat.le_trans ht putL_len.1) s (Nat.le_refl _) h
theorem allP_mem {s l : List ObjD} (h : (allP s l).2 = true) (p : ObjD) : p ∈ (allP s l).1 ↔ p ∈ s ∨ p ∈ l := by
  induction l generalizing s with
  | nil => simp [allP]
  | cons o l ih =>
    simp only [allP] at h ⊢
    by_cases hp : putB s o = true
    · rw [if_pos hp] at h ⊢
      rw [ih h, putL_mem hp, List.mem_cons, or_assoc]
    · rw [if_neg hp] at h; cases h

/-- the object with an id -/
def getO (os : List ObjD) (n : Int) : Option ObjD := os.find? fun o => decide (idB o = n)
theorem getO_mem {os : List ObjD} {o : ObjD} (ha : AscO os) (h : o ∈ os) : getO os (idB o) = some o := by
  unfold getO
  induction os with
  | nil => cases h
  | cons p os ih =>
    unfold AscO at ha
    obtain ⟨h1, h2⟩ := List.pairwise_cons.1 ha
    rcases List.mem_cons.1 h with rfl | h
    · simp
    · have := h1 o h
      rw [List.find?_cons_of_neg (by simp; omega)]
      exact ih h2 h
theorem getO_some {os : List ObjD} {n : Int} {o : ObjD} (h : getO os n = some o) : o ∈ os ∧ idB o = n := by
  unfold getO at h
  exact ⟨List.mem_of_find?_eq_some h, by simpa using List.find?_some h⟩
theorem getO_none {os : List ObjD} {n : Int} : getO os n = none ↔ ∀ o ∈ os, idB o ≠ n := by
  unfold getO
  simp
theorem getO_place {os : List ObjD} {n : Int} (ha : AscO os) : getO os n = if fndB os n = true then some (os.getD (plc os n) zObj) else none := by
  split
  · rename_i h
    obtain ⟨h1, h2⟩ := (fndB_iff _ _).1 h
    rw [objAt h1]
    have := getO_mem ha (List.getElem_mem h1)
    rw [h2] at this
    exact this
  · rename_i h
    rw [getO_none]
    exact fndB_not ha (by simpa using h)

end Go.Proofs.Ytnaeglfochnikaa
