/-
  The walks of slices.Equal and slices.Sort at slices of ints: the second over a row of the call's own. Condition: few elements.
  What the program's reach holds while it works: two rows that grow, the queue, the ids that have been seen. Plain laws; the sort of a row said by its block.
  The walk of the program's reach: what is reached and stored, what is reached and not stored. Condition: valid objects; few ids to begin with.
  Plain laws: what byId makes of one list and of two.
  A heap of numbers in a list: the smallest stands first; a number that sinks keeps the heap; what is popped is in order. Plain laws.
-/
import Derived.Test.YtnaeglfochnikaaGreatZ6
import Derived.Test.YtnaeglfochnikaaGreatShelf
import Derived.Sort.OwnSortedInts
import Derived.Deep.DeepCutAuto
import Derived.Test.YtnaeglfochnikaaGreatZ9
import Derived.Test.YtnaeglfochnikaaGreatById
import Derived.Test.YtnaeglfochnikaaGreatZ3
import Derived.Test.YtnaeglfochnikaaGreatZ8
namespace Go.Proofs.YtnaeglfochnikaaGreat
set_option linter.unusedVariables false
set_option linter.unusedSimpArgs false
open Go.RowKit

theorem eq_take {xs ys : List Int} {k : Nat} (hl : k < xs.length) (hl' : k < ys.length) (h : xs.take k = ys.take k) (he : xs[k] = ys[k]) : xs.take (k + 1) = ys.take (k + 1) := by
  rw [List.take_succ_eq_append_getElem hl, List.take_succ_eq_append_getElem hl', h, he]
theorem eq_not {xs ys : List Int} {k : Nat} (hl : k < xs.length) (hl' : k < ys.length) (he : ¬ xs[k] = ys[k]) : decide (xs = ys) = false := by
  rw [decide_eq_false_iff_not]; intro e; subst e; exact he rfl
theorem eq_len {xs ys : List Int} (h : ¬ xs.length = ys.length) : decide (xs = ys) = false := by
  rw [decide_eq_false_iff_not]; intro e; subst e; exact h rfl

/-- a row in ascending order -/
def srt (xs : List Int) : List Int := xs.mergeSort fun x y => decide (x ≤ y)
theorem srt_len (xs : List Int) : (srt xs).length = xs.length := by unfold srt; simp
theorem sortInt_row (xs : List Int) (A : Option Addr) (n c base : Nat) (w : World) (hn20 : n ≤ 1048576) (h : w.ownsRow base 3 1 (.slice A n c) n (xs.flatMap ci)) :
    Calls Tryz.prog 75 #[.slice A n c] w fun e w' => e = .returned (.tuple #[]) ∧ w'.ownsRow base 3 1 (.slice A n c) n ((srt xs).flatMap ci) ∧ Below base w w' := by
  have hl : xs.length = n := by
    have := h.1
    rw [flat_len ci 1 ci_len] at this
    omega
  rcases Nat.eq_zero_or_pos n with h0 | h0
  · subst h0
    have hx : xs = [] := List.eq_nil_of_length_eq_zero hl
    subst hx
    refine (Tryz.slices_Sort_int_none A c w).mono ?_
    rintro e w' ⟨rfl, rfl⟩
    exact ⟨rfl, by unfold srt; simpa using h, Below.refl _ _⟩
  · rcases h.2 with ⟨e1, -⟩ | ⟨g, cap, cur, e1, hb, hh, hn, hm, hs, ht⟩
    · injection e1 with _ e2 _; omega
    · injection e1 with e1 e2 e3
      subst e1 e3
      subst hl
      have hlt : g < w.heap.size := by
        rcases Nat.lt_or_ge g w.heap.size with hlt | hge
        · exact hlt
        · rw [Array.getElem?_eq_none hge] at hh; cases hh
      have ht' : cur.toList.take xs.length = xs.map (Value.int .i64) := by
        rw [Nat.mul_one] at ht
        rw [ht, flat_ci]
      refine (Tryz.slices_Sort_int g 0 c xs w (holds_of_blockI hh ht') hlt (by omega)).mono ?_
      rintro e w' ⟨rfl, q, os, rfl⟩
      have h1 := ownsRow_sortedI (base := base) (n := q) (os := os) (srt_len xs) hb hh hn hm hs
      rw [flat_ci]
      refine ⟨rfl, h1, ?_⟩
      exact (Below.refl _ _).grown (grownBy_sortedI _) (by omega) (fun j hj => by injection hj with hj; omega)

end Go.Proofs.YtnaeglfochnikaaGreat

namespace Go.Proofs.YtnaeglfochnikaaGreat
set_option linter.unusedVariables false
set_option linter.unusedSimpArgs false
open Go.RowKit Go.Sort

/-- two rows of numbers and a queue, all in blocks of their own -/
def RowsR (w : World) (B : Nat) (vs vm vq : Value) (st ms qs : List Int) : Prop :=
  w.ownsRow B 3 1 vs st.length (st.flatMap ci) ∧ w.ownsRow B 3 1 vm ms.length (ms.flatMap ci) ∧ QRow w B vq qs ∧
  (∀ g, vs.ownBlock = some g → vm.ownBlock ≠ some g ∧ vq.ownBlock ≠ some g) ∧ (∀ g, vm.ownBlock = some g → vq.ownBlock ≠ some g)
section
variable {w w' : World} {B : Nat} {vs vm vq : Value} {st ms qs : List Int}
theorem QRow.lt (h : QRow w B vq qs) : ∀ g, vq.ownBlock = some g → B ≤ g ∧ g < w.heap.size := fun g hg => by
  rcases h with ⟨rfl, _⟩ | ⟨g', off, cap, rfl, h1, h2, _⟩
  · cases hg
  · injection hg with hg; subst hg; exact ⟨h1, h2⟩
theorem ownNe {v : Value} {row : Option Nat} (h : ∀ g, v.ownBlock = some g → row ≠ some g) : v.ownBlock = none ∨ v.ownBlock ≠ row := by
  rcases hv : v.ownBlock with _ | g
  · exact .inl rfl
  · exact .inr (fun e => h g hv e.symm)
theorem RowsR.kept {row : Option Nat} (h : RowsR w B vs vm vq st ms qs) (hg : w.grownBy w' row) (hr : ∀ g, row = some g → g < B) : RowsR w' B vs vm vq st ms qs := by
  obtain ⟨h1, h2, h3, h4, h5⟩ := h
  exact ⟨h1.kept hg (ownNe fun g hg' e => by have := hr g e; have := (h1.lt g hg').1; omega), h2.kept hg (ownNe fun g hg' e => by have := hr g e; have := (h2.lt g hg').1; omega), h3.kept hg (fun g hg' e => by have := hr g e; have := (h3.lt g hg').1; omega), h4, h5⟩
theorem RowsR.alloc (h : RowsR w B vs vm vq st ms qs) (o : Obj) : RowsR (w.alloc o) B vs vm vq st ms qs := h.kept (World.grownBy_alloc w o none) (fun _ e => by cases e)
theorem RowsR.cut {x : Int} {v' : Value} (h : RowsR w B vs vm vq st ms (x :: qs)) (hq : QRow w B v' qs) (hb : v'.ownBlock = vq.ownBlock) : RowsR w B vs vm v' st ms qs := by
  obtain ⟨h1, h2, h3, h4, h5⟩ := h
  exact ⟨h1, h2, hq, fun g hg => by rw [hb]; exact h4 g hg, fun g hg => by rw [hb]; exact h5 g hg⟩
theorem RowsR.appS {x : Int} {v' : Value} (h : RowsR w B vs vm vq st ms qs) (ho : w'.ownsRow B 3 1 v' (st.length + 1) (st.flatMap ci ++ [.int .i64 x])) (hg : w.grownBy w' vs.ownBlock) (hat : v'.ownBlock = vs.ownBlock ∨ v'.ownBlock = some w.heap.size) : RowsR w' B v' vm vq (st ++ [x]) ms qs := by
  obtain ⟨h1, h2, h3, h4, h5⟩ := h
  refine ⟨by rw [List.length_append, List.flatMap_append]; exact ho, h2.kept hg (ownNe fun g hg' e => (h4 g e).1 hg'), h3.kept hg (fun g hg' e => (h4 g e).2 hg'), fun g hg' => ?_, h5⟩
  rcases hat with e | e
  · rw [e] at hg'; exact h4 g hg'
  · rw [e] at hg'; injection hg' with hg'
    exact ⟨fun e2 => by have := (h2.lt g e2).2; omega, fun e2 => by have := (h3.lt g e2).2; omega⟩
theorem RowsR.appM {x : Int} {v' : Value} (h : RowsR w B vs vm vq st ms qs) (ho : w'.ownsRow B 3 1 v' (ms.length + 1) (ms.flatMap ci ++ [.int .i64 x])) (hg : w.grownBy w' vm.ownBlock) (hat : v'.ownBlock = vm.ownBlock ∨ v'.ownBlock = some w.heap.size) : RowsR w' B vs v' vq st (ms ++ [x]) qs := by
  obtain ⟨h1, h2, h3, h4, h5⟩ := h
  refine ⟨h1.kept hg (ownNe fun g hg' e => (h4 g hg').1 e), by rw [List.length_append, List.flatMap_append]; exact ho, h3.kept hg (fun g hg' e => h5 g e hg'), fun g hg' => ?_, fun g hg' => ?_⟩
  · rcases hat with e | e
    · rw [e]; exact h4 g hg'
    · exact ⟨fun e2 => by rw [e] at e2; injection e2 with e2; have := (h1.lt g hg').2; omega, (h4 g hg').2⟩
  · rcases hat with e | e
    · rw [e] at hg'; exact h5 g hg'
    · rw [e] at hg'; injection hg' with hg'
      exact fun e2 => by have := (h3.lt g e2).2; omega
theorem RowsR.appQ {xs : List Int} {v' : Value} (h : RowsR w B vs vm vq st ms qs) (ho : QRow w' B v' xs) (hg : w.grownBy w' vq.ownBlock) (hat : v'.ownBlock = vq.ownBlock ∨ ∀ g, v'.ownBlock = some g → w.heap.size ≤ g) : RowsR w' B vs vm v' st ms xs := by
  obtain ⟨h1, h2, h3, h4, h5⟩ := h
  refine ⟨h1.kept hg (ownNe fun g hg' e => (h4 g hg').2 e), h2.kept hg (ownNe fun g hg' e => h5 g hg' e), ho, fun g hg' => ⟨(h4 g hg').1, fun e2 => ?_⟩, fun g hg' e2 => ?_⟩
  · rcases hat with e | e
    · rw [e] at e2; exact (h4 g hg').2 e2
    · have := e g e2; have := (h1.lt g hg').2; omega
  · rcases hat with e | e
    · rw [e] at e2; exact h5 g hg' e2
    · have := e g e2; have := (h2.lt g hg').2; omega

/-- block X says which ids have been seen -/
def SeenR (w : World) (X : Nat) (st ms : List Int) : Prop := ∃ m C, m ≤ st.length + ms.length ∧ MapI Tryz.prog 3 w X m C ∧ ∀ i, C i = if i ∈ st ++ ms then some (.bool true) else none
theorem SeenR.kept {X : Nat} {row : Option Nat} (h : SeenR w X st ms) (hg : w.grownBy w' row) (hr : ∀ g, row = some g → g ≠ X) : SeenR w' X st ms := by
  obtain ⟨m, C, h1, h2, h3⟩ := h
  exact ⟨m, C, h1, h2.kept hg (fun e => hr X e.symm rfl), h3⟩
theorem SeenR.made (w : World) : SeenR (w.alloc (.map #[] 0)) w.heap.size [] [] := ⟨0, _, Nat.le_refl _, MapI.made w _ _, fun i => by simp⟩
theorem SeenR.ask {X : Nat} (h : SeenR w X st ms) {i : Int} (hi : (Lit.int .i64 i).wf = true) : (Instr.lookup 105 (.map (some X)) (.int .i64 i) false).run Tryz.prog w = .ok (.bool (decide (i ∈ st ++ ms))) w := by
  obtain ⟨m, C, h1, h2, h3⟩ := h
  have hz : (zeroValue 4).run Tryz.prog w = .ok (.bool false) w := Tryz.zeroValue4 w
  rw [h2.get (t := 105) Tryz.underlying3 Tryz.underlying105 hz hi, h3 i]
  by_cases e : i ∈ st ++ ms <;> simp only [if_pos, if_neg, e, decide_true, decide_false, Option.getD_some, Option.getD_none, not_false_eq_true]
theorem SeenR.put {X : Nat} (h : SeenR w X st ms) {i : Int} (hi : (Lit.int .i64 i).wf = true) (hl : st.length + ms.length ≤ 1048576) :
    ∃ w2, (Instr.mapUpdate 105 (.map (some X)) (.int .i64 i) (.bool true)).run Tryz.prog w = .ok () w2 ∧ SeenR w2 X (st ++ [i]) ms ∧ SeenR w2 X st (ms ++ [i]) ∧ w.grownBy w2 (some X) := by
  obtain ⟨m, C, h1, h2, h3⟩ := h
  obtain ⟨w2, hrun, hM, hg⟩ := h2.set (t := 105) Tryz.underlying3 Tryz.underlying105 (by unfold maxLen; omega) hi (.bool true)
  refine ⟨w2, hrun, ⟨_, _, ?_, hM, fun j => ?_⟩, ⟨_, _, ?_, hM, fun j => ?_⟩, hg⟩
  · simp; omega
  · by_cases e : j = i
    · subst e; rw [if_pos rfl, if_pos (by simp)]
    · rw [if_neg e, h3 j]
      simp [e]
  · simp; omega
  · by_cases e : j = i
    · subst e; rw [if_pos rfl, if_pos (by simp)]
    · rw [if_neg e, h3 j]
      simp [e]
/-- what an id leads to -/
theorem OMap.ask {lo hi b : Nat} {M : Int → Option ObjD} (h : OMap w lo hi b M) {i : Int} (hi' : (Lit.int .i64 i).wf = true) :
    ∃ A n c, (Instr.lookup 68 (.map (some b)) (.int .i64 i) true).run Tryz.prog w = .ok (.tuple #[.agg #[.int .i64 ((M i).getD ⟨0, [], ⟨#[]⟩⟩).kind, .slice A n c, .string ((M i).getD ⟨0, [], ⟨#[]⟩⟩).text], .bool (M i).isSome]) w ∧
      ∀ o, M i = some o → D.rd w lo hi (intsD o.links) (.slice A n c) := by
  obtain ⟨C, m, h1, h2⟩ := h
  have hz : (zeroValue 52).run Tryz.prog w = .ok (.agg #[.int .i64 0, .slice none 0 0, .string ⟨#[]⟩]) w := Tryz.zeroValue52 w
  have hask := h1.ask (t := 68) Tryz.underlying3 Tryz.underlying68 hz hi'
  rcases hM : M i with _ | o
  · rw [(h2 i).1 hM] at hask
    exact ⟨none, 0, 0, hask, fun o h => by cases h⟩
  · obtain ⟨A, n, c, hC, hr⟩ := (h2 i).2 o hM
    rw [hC] at hask
    refine ⟨A, n, c, hask, fun o' ho => ?_⟩
    injection ho with ho; subst ho
    exact hr
theorem OMap.kept {lo hi b : Nat} {M : Int → Option ObjD} {row : Option Nat} (h : OMap w lo hi b M) (hh : hi ≤ w.heap.size) (hg : w.grownBy w' row) (hr : ∀ g, row = some g → g ≠ b ∧ hi ≤ g) : OMap w' lo hi b M := by
  obtain ⟨C, m, h1, h2⟩ := h
  refine ⟨C, m, h1.kept hg (fun e => (hr b e.symm).1 rfl), fun i => ⟨(h2 i).1, fun o ho => ?_⟩⟩
  obtain ⟨A, n, c, k1, k2⟩ := (h2 i).2 o ho
  exact ⟨A, n, c, k1, k2.grown hg hh (fun g e => .inr (hr g e).2)⟩
end
theorem sortInt_g (xs : List Int) (A : Option Addr) (n c base : Nat) (w : World) (hn20 : n ≤ 1048576) (h : w.ownsRow base 3 1 (.slice A n c) n (xs.flatMap ci)) :
    Calls Tryz.prog 75 #[.slice A n c] w fun e w' => e = .returned (.tuple #[]) ∧ w'.ownsRow base 3 1 (.slice A n c) n ((srt xs).flatMap ci) ∧ w.grownBy w' (Value.ownBlock (.slice A n c)) := by
  have hl : xs.length = n := by
    have := h.1
    rw [flat_len ci 1 ci_len] at this
    omega
  rcases Nat.eq_zero_or_pos n with h0 | h0
  · subst h0
    have hx : xs = [] := List.eq_nil_of_length_eq_zero hl
    subst hx
    refine (Tryz.slices_Sort_int_none A c w).mono ?_
    rintro e w' ⟨rfl, rfl⟩
    exact ⟨rfl, by unfold srt; simpa using h, World.grownBy.refl _ _⟩
  · rcases h.2 with ⟨e1, -⟩ | ⟨g, cap, cur, e1, hb, hh, hn, hm, hs, ht⟩
    · injection e1 with _ e2 _; omega
    · injection e1 with e1 e2 e3
      subst e1 e3
      subst hl
      have hlt : g < w.heap.size := by
        rcases Nat.lt_or_ge g w.heap.size with hlt | hge
        · exact hlt
        · rw [Array.getElem?_eq_none hge] at hh; cases hh
      have ht' : cur.toList.take xs.length = xs.map (Value.int .i64) := by
        rw [Nat.mul_one] at ht
        rw [ht, flat_ci]
      refine (Tryz.slices_Sort_int g 0 c xs w (holds_of_blockI hh ht') hlt (by omega)).mono ?_
      rintro e w' ⟨rfl, q, os, rfl⟩
      have h1 := ownsRow_sortedI (base := base) (n := q) (os := os) (srt_len xs) hb hh hn hm hs
      rw [flat_ci]
      exact ⟨rfl, h1, grownBy_sortedI _⟩

end Go.Proofs.YtnaeglfochnikaaGreat

namespace Go.Proofs.YtnaeglfochnikaaGreat
set_option linter.unusedVariables false
set_option linter.unusedSimpArgs false
open Go.RowKit

/-- the length of a slice -/
def lenV : Value → Nat
  | .slice _ n _ => n
  | _ => 0

theorem own_low {w : World} {base base' size n : Nat} {e : TypeId} {v : Value} {cs : List Value} (h : w.ownsRow base e size v n cs) (hb : base' ≤ base) : w.ownsRow base' e size v n cs := by
  refine ⟨h.1, ?_⟩
  rcases h.2 with h2 | ⟨g, cap, cur, h2, h3, h4⟩
  · exact .inl h2
  · exact .inr ⟨g, cap, cur, h2, Nat.le_trans hb h3, h4⟩

set_option maxRecDepth 100000 in
set_option maxHeartbeats 3200000 in
theorem reach_any (M : Int → Option ObjD) (frm : List Int) (b : Nat) (F : Option Addr) (m d : Nat) (w : World) (lo hi lo' hi' : Nat) (hh : hi ≤ w.heap.size) (hh' : hi' ≤ w.heap.size) (hb : b < w.heap.size) (hv : ∀ i o, M i = some o → objB o = true) (hl : frm.length ≤ 1000) (hr : ∀ x ∈ frm, 0 ≤ x ∧ x ≤ 990)
    (hm : OMap w lo hi b M) (hf : Ints w lo' hi' F m frm) :
    Calls Tryz.prog 44 #[.map (some b), .slice F m d] w fun e w' => ∃ vs vm st ms, WorkQ M frm [] st ms ∧ w'.ownsRow w.heap.size 3 1 vs st.length ((srt st).flatMap ci) ∧ w'.ownsRow w.heap.size 3 1 vm ms.length ((srt ms).flatMap ci) ∧
      (∀ g, vs.ownBlock = some g → vm.ownBlock ≠ some g) ∧ Below w.heap.size w w' ∧ e = .returned (.tuple #[vs, vm]) := by
  have hmm := @run_makeMap Tryz.prog
  have HM0 := Lib.hid hm
  have HF0 := Lib.hid hf
  have HV := Lib.hid hv
  have hm1 : m ≤ 1000 := by rw [← hf.1]; exact hl
  have HW0 := Lib.hid (WorkQ.start (M := M) hr)
  have HFL := Lib.hid hl
  clear hm hf hv hr hl
  go_enter Tryz.func44, Tryz.ntmps44
  go_wp2_with fail
  refine (cloneInt_row frm F m d _ lo' hi' (by simp; omega) (by omega) (HF0.out.alloc hh' _)).mono ?_
  rintro e w1 ⟨B, q, hown, hb1, rfl⟩
  obtain ⟨X, hX⟩ : ∃ X, X = w.heap.size := ⟨_, rfl⟩
  have hs1 : (w.alloc (.map #[] 0)).heap.size = X + 1 := by rw [hX]; simp
  rw [hs1] at hown hb1
  have hS0 : SeenR w1 X [] [] := by
    rw [hX]
    exact (SeenR.made w).kept (row := none) (by rw [← hs1] at hb1; exact grown_none hb1 none) (fun g e => by cases e)
  have hB0 : Below X w w1 := by
    rw [hX]
    exact ((Below.refl _ w).alloc (Nat.le_refl _) _).trans (hb1.mono (by omega))
  have hfl := HF0.out.1
  rw [← hfl] at hown
  have hR0 : RowsR w1 (X + 1) (.slice none 0 0) (.slice none 0 0) (.slice B frm.length q) [] [] frm :=
    ⟨World.ownsRow_nil w1 (X + 1) _ 1, World.ownsRow_nil w1 (X + 1) _ 1, QRow.of_own hown, (fun g hg => by cases hg), (fun g hg => by cases hg)⟩
  have HS0 := Lib.hid hS0
  have HB0 := Lib.hid hB0
  have HR0 := Lib.hid hR0
  subst hfl
  have HX := Lib.hid hX
  rw [← hX]
  clear hown hb1 hs1 hS0 hB0 hR0 hmm hX
  go_wp2_with fail
  go_loopw [4, 5, 7] (fun vs vm vq wr => ∃ qs st ms, Hid (WorkQ M frm qs st ms) ∧ qs.length ≤ 1000 + 4 * st.length ∧ Hid (RowsR wr (X + 1) vs vm vq st ms qs) ∧ Hid (SeenR wr X st ms) ∧ Hid (Below X w wr)) (fun vs vm vq _ => 5 * (991 - (lenV vs + lenV vm)) + lenV vq)
  case atStart => exact ⟨frm, [], [], HW0, by simp; omega, HR0, HS0, HB0⟩
  case round =>
    obtain ⟨qs, st, ms, HW, hql, HR, HS, HB⟩ := hrel
    have hl991 := HW.out.len
    have hXl : X < wr.heap.size := by
      obtain ⟨_, _, _, h, _⟩ := HS.out
      exact h.lt
    have hXw : X ≤ wr.heap.size := Nat.le_of_lt hXl
    obtain ⟨As, cs, rfl, hcs1, hcs2, -⟩ := Rd.of_own HR.out.1
    obtain ⟨Am, cm, rfl, hcm1, hcm2, -⟩ := Rd.of_own HR.out.2.1
    rcases qs with _ | ⟨x, qs⟩
    · obtain ⟨Aq, cq, rfl⟩ := HR.out.2.2.1.shape
      go_wp2_with fail
      refine (sortInt_g st As st.length cs (X + 1) wr (by omega) HR.out.1).mono ?_
      rintro e w2 ⟨rfl, hown2, hg2⟩
      have hm2 := HR.out.2.1.kept hg2 (ownNe fun q hq e => (HR.out.2.2.2.1 q e).1 hq)
      have HO2 := Lib.hid hown2
      have HM2 := Lib.hid hm2
      have HB2 : Hid (Below X w w2) := HB.out.grown hg2 hXw (fun q e => by have := (HR.out.1.lt q e).1; omega)
      have hs2 := hg2.size
      clear hown2 hm2 hg2
      go_wp2_with fail
      refine (sortInt_g ms Am ms.length cm (X + 1) w2 (by omega) HM2.out).mono ?_
      rintro e w3 ⟨rfl, hown3, hg3⟩
      have hm3 := HO2.out.kept hg3 (ownNe fun q hq e => (HR.out.2.2.2.1 q hq).1 e)
      have HO3 := Lib.hid hown3
      have HM3 := Lib.hid hm3
      have HB3 : Hid (Below X w w3) := HB2.out.grown hg3 (by omega) (fun q e => by have := (HM2.out.lt q e).1; omega)
      clear hown3 hm3 hg3
      go_wp2_with fail
      go_ret2
      rw [← HX.out]
      exact ⟨_, _, st, ms, HW.out, own_low HM3.out (by omega), own_low HO3.out (by omega), fun q hq => (HR.out.2.2.2.1 q hq).1, HB3.out, by rfl⟩
    · obtain ⟨Aq, cq, rfl⟩ := HR.out.2.2.1.shape
      obtain ⟨g, off, rfl, -, hnc, hcq, hcell, hrest, hblk⟩ := HR.out.2.2.1.rest
      obtain ⟨A2, c2, hv2⟩ := hrest.shape
      obtain ⟨l, hl⟩ : ∃ l, l = qs.length := ⟨_, rfl⟩
      have hl1 : (x :: qs).length = l + 1 := by rw [hl]; simp
      rw [hl1] at hnc hrest hblk hv2 HR hql
      rw [hl1]
      rw [hv2, ← hl] at hrest
      rw [hv2, ← hl] at hblk
      rw [← hl] at hv2
      unfold maxLen at hcq
      have HV3 : Hid (Value.slice (if cq = 1 then some ⟨g, off, none⟩ else some ⟨g, off + 1, none⟩) l (cq - 1) = .slice A2 l c2) := by show _ = _; rw [← hv2]; simp [sliced, Addr.add]
      have hx := HW.out.2.1 x (by simp)
      have hwf : (Lit.int .i64 x).wf = true := WalkArith.wf_i64 (by omega)
      have HR2 : Hid (RowsR wr (X + 1) (.slice As st.length cs) (.slice Am ms.length cm) (.slice A2 l c2) st ms qs) := Lib.hid (HR.out.cut hrest hblk)
      have hask := HS.out.ask hwf
      by_cases hse : x ∈ st ++ ms
      · have HW2 := Lib.hid (HW.out.seen hse)
        rw [decide_eq_true hse] at hask
        have HLq := Lib.hid hl
        clear hrest hblk hv2 hse hl hl1
        go_upto_region 6 with (fail)
        rw [HV3.out]
        go_wp2_with fail
        go_roundw
        case rel => exact ⟨qs, st, ms, HW2, by rw [← HLq.out]; omega, HR2, HS, HB⟩
        case measure => simp [lenV]
      · rw [decide_eq_false hse] at hask
        obtain ⟨w2, hrun, hS1, hS2, hg2⟩ := HS.out.put hwf (by omega)
        have HS1 := Lib.hid hS1
        have HS2 := Lib.hid hS2
        have HG2 := Lib.hid hg2
        have HR3 := Lib.hid (HR2.out.kept hg2 (fun q e => by injection e with e; omega))
        have hbX : b < X := by rw [HX.out]; exact hb
        have hhX : hi ≤ X := by rw [HX.out]; exact hh
        have HB2 : Hid (Below X w w2) := HB.out.grown hg2 hXw (fun q e => by injection e with e; omega)
        have hs2 := hg2.size
        have HM2 : Hid (OMap w2 lo hi b M) := (HM0.out.kept hh (grown_none (HX.out ▸ HB2.out) none) (fun q e => by cases e))
        obtain ⟨A3, n3, c3, hask2, hlk⟩ := HM2.out.ask hwf
        clear hrest hblk hv2 hS1 hS2 hg2
        rcases hMx : M x with _ | o
        · have HW2 := Lib.hid (HW.out.miss hse hMx)
          rw [hMx] at hask2
          have HLq := Lib.hid hl
          clear hse hMx hlk hl hl1
          go_upto_region 6 with (fail)
          rw [HV3.out]
          go_wp2_with (at_builtin; go_must (refine wpList_app_at Tryz.elI (m := 1) ((HR3.out.alloc _).alloc _).2.1 (rd_newn (w := w2.alloc (.cells #[.int .i64 0, .slice A3 n3 c3, .string ⟨#[]⟩] 52)) (n := w2.heap.size + 1) (by simp) [.int .i64 x] 3) rfl (by simp [Value.oneCell']) (by unfold maxLen; omega) (by omega) (by simp; omega) rfl rfl rfl rfl ?_); intro v4 w4 hown4 hg4 hat4; go_must (have HR4 := Lib.hid (((HR3.out.alloc _).alloc _).appM hown4 hg4 hat4)); go_must (have HS4 : Hid (SeenR w4 X st (ms ++ [x])) := ((HS2.out.kept (World.grownBy_alloc w2 _ none) (fun _ e => by cases e)).kept (World.grownBy_alloc _ _ none) (fun _ e => by cases e)).kept hg4 (fun q e => by have := (HR3.out.2.1.lt q e).1; omega)); go_must (have HB4 : Hid (Below X w w4) := ((HB2.out.alloc (by omega) _).alloc (by simp; omega) _).grown hg4 (by simp; omega) (fun q e => by have := (HR3.out.2.1.lt q e).1; omega)); go_must (obtain ⟨A4, c4, rfl, -⟩ := Rd.of_own hown4); clear hown4 hg4 hat4)
          go_roundw
          case rel => exact ⟨qs, st, ms ++ [x], HW2, by rw [← HLq.out]; omega, HR4, HS4, HB4⟩
          case measure => simp [lenV]; omega
        · have hob := HV.out x o hMx
          have hl4 : o.links.length ≤ 4 := (objB_and hob).2.1
          have HW2 := Lib.hid (HW.out.have_ hse hMx (link_rng hob))
          have HLK := Lib.hid (hlk o hMx)
          rw [hMx] at hask2
          simp only [Option.getD_some, Option.isSome_some] at hask2
          have HLq := Lib.hid hl
          have HOB := Lib.hid hob
          obtain ⟨p, hp⟩ : ∃ p, p = w2.heap.size := ⟨_, rfl⟩
          obtain ⟨w3, hw3⟩ : ∃ w3, w3 = w2.alloc (.cells #[.int .i64 o.kind, .slice A3 n3 c3, .string o.text] 52) := ⟨_, rfl⟩
          have HC3 : Hid (w3.heap[p]? = some (.cells #[.int .i64 o.kind, .slice A3 n3 c3, .string o.text] 52 (0, 0))) := by rw [hw3, hp]; exact heap_alloc_new w2 _
          have HR31 : Hid (RowsR w3 (X + 1) (.slice As st.length cs) (.slice Am ms.length cm) (.slice A2 l c2) st ms qs) := by rw [hw3]; exact HR3.out.alloc _
          have HS31 : Hid (SeenR w3 X (st ++ [x]) ms) := by rw [hw3]; exact HS1.out.kept (World.grownBy_alloc w2 _ none) (fun _ e => by cases e)
          have HB31 : Hid (Below X w w3) := by rw [hw3]; exact HB2.out.alloc (by omega) _
          have HLK3 : Hid (D.rd w3 lo hi (intsD o.links) (.slice A3 n3 c3)) := by rw [hw3]; exact HLK.out.alloc (by omega) _
          have hlp : p < w3.heap.size := by rw [hw3, hp]; simp
          have hxp : X < p := by rw [hp]; omega
          have hob2 : ∀ q, (Value.slice As st.length cs).ownBlock = some q → q < p := by
            intro q e; rw [hp]; exact (HR3.out.1.lt q e).2
          clear hse hMx hlk hl hl1 hob
          go_upto_region 9 with (fail)
          rw [HV3.out, ← hw3, ← hp]
          clear hw3 hp
          go_upto_region 12 with (at_builtin; go_must (refine wpList_app_at Tryz.elI (m := 1) (HR31.out.alloc _).1 (rd_newn (w := w3) (n := w3.heap.size) rfl [.int .i64 x] 3) rfl (by simp [Value.oneCell']) (by unfold maxLen; omega) (by omega) (by simp; omega) rfl rfl rfl rfl ?_); intro v4 w4 hown4 hg4 hat4; go_must (have HR4 := Lib.hid ((HR31.out.alloc _).appS hown4 hg4 hat4)); go_must (have HS4 : Hid (SeenR w4 X (st ++ [x]) ms) := (HS31.out.kept (World.grownBy_alloc w3 _ none) (fun _ e => by cases e)).kept hg4 (fun q e => by have := (HR31.out.1.lt q e).1; omega)); go_must (have HB4 : Hid (Below X w w4) := (HB31.out.alloc (by omega) _).grown hg4 (by simp; omega) (fun q e => by have := (HR31.out.1.lt q e).1; omega)); go_must (have hcell4 : w4.cell? ⟨p, 1, none⟩ = some (.slice A3 n3 c3) := (cell_grown hg4 (p := ⟨p, 1, none⟩) (by simp; omega) (fun e => by have := hob2 p e.symm; omega)).trans ((World.cell?_alloc_lt w3 _ ⟨p, 1, none⟩ hlp).trans (cell_of_row _ _ _ _ _ _ HC3.out))); go_must (have HLK4 : Hid (D.rd w4 lo hi (intsD o.links) (.slice A3 n3 c3)) := (HLK3.out.alloc (by omega) _).grown hg4 (by simp; omega) (fun q e => .inr (by have := (HR31.out.1.lt q e).1; omega))); have hs4 := hg4.size; go_must (obtain ⟨A4, c4, rfl, -⟩ := Rd.of_own hown4); clear hown4 hg4 hat4)
          have HIN := Lib.hid HLK4.out.ints
          have hX4 : X + 1 ≤ w4.heap.size := by rw [World.size_alloc] at hs4; omega
          go_wp2_with (at_builtin; go_must (refine wpList_app_q (ls := o.links) Tryz.elI HR4.out.2.2.1 HIN.out.2 HIN.out.1.symm (by rw [← HLq.out]; omega) hX4 rfl rfl rfl rfl ?_); intro v5 w5 hq5 hg5 hat5; go_must (have HR5 := Lib.hid (HR4.out.appQ hq5 hg5 hat5)); go_must (have HS5 : Hid (SeenR w5 X (st ++ [x]) ms) := HS4.out.kept hg5 (fun q e => by have := (HR4.out.2.2.1.lt q e).1; omega)); go_must (have HB5 : Hid (Below X w w5) := HB4.out.grown hg5 (by omega) (fun q e => by have := (HR4.out.2.2.1.lt q e).1; omega)); go_must (obtain ⟨A5, c5, rfl⟩ := hq5.shape); clear hq5 hg5 hat5)
          rw [List.length_append] at HR5
          have h99 := HW2.out.len
          rw [List.length_append, List.length_singleton] at h99
          go_roundw
          case rel => exact ⟨qs ++ o.links, st ++ [x], ms, HW2, by simp only [List.length_append, List.length_singleton]; rw [← HLq.out]; omega, HR5, HS5, HB5⟩
          case measure => simp only [lenV, List.length_append]; rw [← HLq.out]; omega

end Go.Proofs.YtnaeglfochnikaaGreat

namespace Go.Proofs.YtnaeglfochnikaaGreat
set_option linter.unusedVariables false
set_option linter.unusedSimpArgs false
open Go.RowKit

theorem getO_cons (o : ObjD) (os : List ObjD) (i : Int) : getO (o :: os) i = if idB o = i then some o else getO os i := by
  unfold getO
  by_cases e : idB o = i
  · rw [List.find?_cons_of_pos (by simp [e]), if_pos e]
  · rw [List.find?_cons_of_neg (by simp [e]), if_neg e]
theorem setL_get {os : List ObjD} : AscO os → ∀ (M : Int → Option ObjD) (i : Int), setL M os i = (getO os i).or (M i) := by
  induction os with
  | nil => intro _ M i; simp [setL, getO]
  | cons o os ih =>
    intro ha M i
    unfold AscO at ha
    obtain ⟨h1, h2⟩ := List.pairwise_cons.1 ha
    have h3 : setL M (o :: os) i = setL (fun j => if j = idB o then some o else M j) os i := rfl
    rw [h3, ih h2, getO_cons]
    by_cases e : idB o = i
    · have hn : getO os i = none := getO_none.2 fun p hp e2 => by have := h1 p hp; omega
      rw [if_pos e, hn, if_pos e.symm]; rfl
    · rw [if_neg e, if_neg (fun h => e h.symm)]
theorem byL_one (oss : Fin 1 → List ObjD) (h : AscO (oss 0)) : byL oss (bk 1 0) = getO (oss 0) := by
  funext i
  have e : byL oss (bk 1 0) = setL (fun _ => none) (oss 0) := rfl
  rw [e, setL_get h]
  simp
theorem byL_two (oss : Fin 2 → List ObjD) (h0 : AscO (oss 0)) (h1 : AscO (oss 1)) : byL oss (bk 2 0) = getO (oss 0 ++ oss 1) := by
  funext i
  have e : byL oss (bk 2 0) = setL (setL (fun _ => none) (oss 1)) (oss 0) := rfl
  rw [e, setL_get h0, setL_get h1]
  unfold getO
  rw [List.find?_append]
  simp
/-- the missing half of what reach hands back -/
theorem reach_mis {M : Int → Option ObjD} {frm st ms : List Int} (h : WorkQ M frm [] st ms) : srt ms = misL M frm ∧ srt st = stoL M frm ∧ ms.length = (misL M frm).length ∧ st.length = (stoL M frm).length := by
  have hp : ∀ xs : List Int, (srt xs).Perm xs := fun xs => by unfold srt; exact List.mergeSort_perm _ _
  have ha : ∀ xs : List Int, (srt xs).Pairwise (· ≤ ·) := fun xs => by
    unfold srt
    have := List.pairwise_mergeSort (le := fun (x y : Int) => decide (x ≤ y)) (fun a b c h1 h2 => by simp at *; omega) (fun a b => by simp; omega) xs
    exact this.imp fun h => by simpa using h
  obtain ⟨h1, h2⟩ := h.halves (hp st) (ha st) (hp ms) (ha ms)
  have e1 : srt ms = misL M frm := h2
  have e2 : srt st = stoL M frm := h1
  exact ⟨e1, e2, by rw [← e1, srt_len], by rw [← e2, srt_len]⟩

end Go.Proofs.YtnaeglfochnikaaGreat

namespace Go.Proofs.YtnaeglfochnikaaGreat
set_option linter.unusedVariables false
set_option linter.unusedSimpArgs false
open Go.RowKit

/-- the first n numbers are a heap -/
def HeapN (zs : List Int) (n : Nat) : Prop := ∀ j, 1 ≤ j → j < n → zs.getD ((j - 1) / 2) 0 ≤ zs.getD j 0
/-- .. but for what stands at i -/
def HeapX (zs : List Int) (n i : Nat) : Prop :=
  (∀ j, 1 ≤ j → j < n → (j - 1) / 2 ≠ i → zs.getD ((j - 1) / 2) 0 ≤ zs.getD j 0) ∧ ∀ j, 1 ≤ j → j < n → (j - 1) / 2 = i → 1 ≤ i → zs.getD ((i - 1) / 2) 0 ≤ zs.getD j 0
/-- two numbers change places -/
def swp (zs : List Int) (i j : Nat) : List Int := (zs.set i (zs.getD j 0)).set j (zs.getD i 0)
theorem swp_len (zs : List Int) (i j : Nat) : (swp zs i j).length = zs.length := by simp [swp]
theorem getD_set {zs : List Int} {i : Nat} (h : i < zs.length) (x : Int) (k : Nat) : (zs.set i x).getD k 0 = if k = i then x else zs.getD k 0 := by
  simp only [List.getD_eq_getElem?_getD, List.getElem?_set]
  by_cases e : k = i
  · subst e; simp [h]
  · rw [if_neg e, if_neg (fun h => e h.symm)]
theorem swp_get {zs : List Int} {i j : Nat} (hi : i < zs.length) (hj : j < zs.length) (k : Nat) : (swp zs i j).getD k 0 = if k = j then zs.getD i 0 else if k = i then zs.getD j 0 else zs.getD k 0 := by
  unfold swp
  rw [getD_set (by simpa using hj), getD_set hi]
theorem swp_perm {zs : List Int} {i j : Nat} (hi : i < zs.length) (hj : j < zs.length) : (swp zs i j).Perm zs := by
  unfold swp
  have h := List.set_set_perm hi hj
  rwa [List.getD_eq_getElem?_getD, List.getD_eq_getElem?_getD, List.getElem?_eq_getElem hi, List.getElem?_eq_getElem hj]
theorem HeapX.stop {zs : List Int} {n i : Nat} (h : HeapX zs n i) (hc : ∀ j, 1 ≤ j → j < n → (j - 1) / 2 = i → zs.getD i 0 ≤ zs.getD j 0) : HeapN zs n := fun j h1 h2 => by
  by_cases e : (j - 1) / 2 = i
  · rw [e]; exact hc j h1 h2 e
  · exact h.1 j h1 h2 e
/-- the number at i sinks to the place of its smaller child -/
theorem HeapX.sink {zs : List Int} {n i j : Nat} (h : HeapX zs n i) (hn : n ≤ zs.length) (hj1 : 1 ≤ j) (hj : j < n) (hp : (j - 1) / 2 = i) (hlt : zs.getD j 0 < zs.getD i 0)
    (hm : ∀ k, 1 ≤ k → k < n → (k - 1) / 2 = i → zs.getD j 0 ≤ zs.getD k 0) : HeapX (swp zs i j) n j := by
  have hij : i < j := by omega
  have hil : i < zs.length := by omega
  have hjl : j < zs.length := by omega
  refine ⟨fun k h1 h2 h3 => ?_, fun k h1 h2 h3 h4 => ?_⟩
  · rw [swp_get hil hjl, swp_get hil hjl]
    have hki : (k - 1) / 2 < k := by omega
    by_cases e1 : (k - 1) / 2 = i
    · rw [if_neg (by omega), if_pos e1]
      by_cases e2 : k = j
      · rw [if_pos e2]; omega
      · rw [if_neg e2, if_neg (by omega)]
        exact hm k h1 h2 e1
    · rw [if_neg h3, if_neg e1]
      by_cases e2 : k = i
      · rw [if_neg (by omega), if_pos e2]
        subst e2
        exact h.2 j hj1 hj hp h1
      · by_cases e3 : k = j
        · subst e3; exact absurd hp e1
        · rw [if_neg e3, if_neg e2]
          exact h.1 k h1 h2 e1
  · rw [hp, swp_get hil hjl, swp_get hil hjl, if_neg (by omega), if_pos rfl, if_neg (by omega), if_neg (by omega)]
    have := h.1 k h1 h2 (by omega)
    rw [h3] at this
    exact this
theorem HeapN.min {zs : List Int} {n : Nat} (h : HeapN zs n) : ∀ j, j < n → zs.getD 0 0 ≤ zs.getD j 0 := fun j => by
  induction j using Nat.strongRecOn with
  | _ j ih =>
    intro hj
    rcases Nat.eq_zero_or_pos j with rfl | h0
    · exact Int.le_refl _
    · exact Int.le_trans (ih ((j - 1) / 2) (by omega) (by omega)) (h j h0 hj)
/-- numbers in order are a heap -/
theorem HeapN.of_asc {zs : List Int} (h : zs.Pairwise (· < ·)) : HeapN zs zs.length := fun j h1 h2 => by
  rw [List.pairwise_iff_getElem] at h
  have := h ((j - 1) / 2) j (by omega) h2 (by omega)
  simp only [List.getD_eq_getElem?_getD, List.getElem?_eq_getElem h2, List.getElem?_eq_getElem (show (j - 1) / 2 < zs.length by omega), Option.getD_some]
  omega

/-- the first and the last change places; the rest is a heap but for the first -/
theorem HeapN.cut {zs : List Int} {n : Nat} (h : HeapN zs (n + 1)) (hl : zs.length = n + 1) : HeapX (swp zs 0 n) n 0 := by
  refine ⟨fun j h1 h2 h3 => ?_, fun j _ _ _ h => by omega⟩
  rw [swp_get (by omega) (by omega), swp_get (by omega) (by omega), if_neg (by omega), if_neg h3, if_neg (by omega), if_neg (by omega)]
  exact h j h1 (by omega)
theorem HeapN.head {zs rs : List Int} {r : Int} (h : HeapN zs zs.length) (hp : zs.Perm (r :: rs)) (ha : (r :: rs).Pairwise (· < ·)) : zs.getD 0 0 = r := by
  have hl : 0 < zs.length := by rw [hp.length_eq]; simp
  have h0 : zs.getD 0 0 = zs[0] := by simp [List.getD_eq_getElem?_getD, hl]
  have hm : zs[0] ∈ r :: rs := hp.mem_iff.1 (List.getElem_mem hl)
  obtain ⟨k, hk, hkr⟩ := List.getElem_of_mem (hp.mem_iff.2 (List.mem_cons_self (a := r) (l := rs)))
  have h1 := h.min k hk
  have h2 : zs.getD k 0 = r := by rw [← hkr]; simp [List.getD_eq_getElem?_getD, hk]
  rw [h2, h0] at h1
  rw [h0]
  rcases List.mem_cons.1 hm with e | e
  · exact e
  · have := (List.pairwise_cons.1 ha).1 _ e
    omega
theorem take_perm {zs rs : List Int} {r : Int} {n : Nat} (hl : zs.length = n + 1) (hp : zs.Perm (r :: rs)) (hr : zs.getD n 0 = r) : (zs.take n).Perm rs := by
  have hn : n < zs.length := by omega
  have e : zs = zs.take n ++ [r] := by
    have h1 := List.take_succ_eq_append_getElem hn
    rw [List.take_of_length_le (by omega)] at h1
    have h2 : zs[n] = r := by rw [← hr]; simp [List.getD_eq_getElem?_getD, hn]
    rw [h2] at h1
    exact h1
  have h3 : (r :: zs.take n).Perm (r :: rs) := by
    refine List.Perm.trans ?_ hp
    have h4 : (zs.take n ++ [r]).Perm (r :: zs.take n) := List.perm_append_comm
    rw [← e] at h4
    exact h4.symm
  exact h3.cons_inv
theorem HeapN.take {zs : List Int} {n : Nat} (h : HeapN zs n) (hn : n ≤ zs.length) : HeapN (zs.take n) (zs.take n).length := fun j h1 h2 => by
  have hj : j < n := by simp at h2; omega
  have h3 : ∀ k, k < n → (zs.take n).getD k 0 = zs.getD k 0 := fun k hk => by simp [List.getD_eq_getElem?_getD, hk]
  rw [h3 _ (by omega), h3 _ hj]
  exact h j h1 hj

end Go.Proofs.YtnaeglfochnikaaGreat
