/-
  What the program's reach holds while it works: two rows that grow, the queue, the ids that have been seen. Plain laws; the sort of a row said by its block.
-/
import Derived.Test.YtgpjcmplnigmcaaQRow
import Derived.Test.YtgpjcmplnigmcaaById
import Derived.Test.YtgpjcmplnigmcaaM8
import Derived.Test.YtgpjcmplnigmcaaReaP
namespace Go.Proofs.Ytgpjcmplnigmcaa
set_option linter.unusedVariables false
set_option linter.unusedSimpArgs false
open Go.RowKit Go.Sort

/-- two rows of numbers and a queue, all in blocks of their own -/
def RowsR (w : World) (B : Nat) (vs vm vq : Value) (st ms qs : List Int) : Prop :=
  w.ownsRow B 3 1 vs st.length (st.flatMap ci) ∧ w.ownsRow B 3 1 vm ms.length (ms.flatMap ci) ∧ QRow w B vq qs ∧
  (∀ g, vs.ownBlock = some g → vm.ownBlock ≠ some g ∧ vq.ownBlock ≠ some g) ∧ (∀ g, vm.ownBlock = some g → vq.ownBlock ≠ some g)
section
variable {w w' : World} {B : Nat} {vs vm vq : Value} {st ms qs : List Int}
theorem QRow.lt (h : QRow w B vq qs) : ∀ g, vq.ownBlock = some g → B ≤ g ∧ g < w.heap.size := fun g hg => by
  rcases h with ⟨rfl, _⟩ | ⟨g', off, cap, rfl, h1, h2, _⟩
  · cases hg
  · injection hg with hg; subst hg; exact ⟨h1, h2⟩
theorem ownNe {v : Value} {row : Option Nat} (h : ∀ g, v.ownBlock = some g → row ≠ some g) : v.ownBlock = none ∨ v.ownBlock ≠ row := by
  rcases hv : v.ownBlock with _ | g
  · exact .inl rfl
  · exact .inr (fun e => h g hv e.symm)
theorem RowsR.kept {row : Option Nat} (h : RowsR w B vs vm vq st ms qs) (hg : w.grownBy w' row) (hr : ∀ g, row = some g → g < B) : RowsR w' B vs vm vq st ms qs := by
  obtain ⟨h1, h2, h3, h4, h5⟩ := h
  exact ⟨h1.kept hg (ownNe fun g hg' e => by have := hr g e; have := (h1.lt g hg').1; omega), h2.kept hg (ownNe fun g hg' e => by have := hr g e; have := (h2.lt g hg').1; omega), h3.kept hg (fun g hg' e => by have := hr g e; have := (h3.lt g hg').1; omega), h4, h5⟩
theorem RowsR.alloc (h : RowsR w B vs vm vq st ms qs) (o : Obj) : RowsR (w.alloc o) B vs vm vq st ms qs := h.kept (World.grownBy_alloc w o none) (fun _ e => by cases e)
theorem RowsR.cut {x : Int} {v' : Value} (h : RowsR w B vs vm vq st ms (x :: qs)) (hq : QRow w B v' qs) (hb : v'.ownBlock = vq.ownBlock) : RowsR w B vs vm v' st ms qs := by
  obtain ⟨h1, h2, h3, h4, h5⟩ := h
  exact ⟨h1, h2, hq, fun g hg => by rw [hb]; exact h4 g hg, fun g hg => by rw [hb]; exact h5 g hg⟩
theorem RowsR.appS {x : Int} {v' : Value} (h : RowsR w B vs vm vq st ms qs) (ho : w'.ownsRow B 3 1 v' (st.length + 1) (st.flatMap ci ++ [.int .i64 x])) (hg : w.grownBy w' vs.ownBlock) (hat : v'.ownBlock = vs.ownBlock ∨ v'.ownBlock = some w.heap.size) : RowsR w' B v' vm vq (st ++ [x]) ms qs := by
  obtain ⟨h1, h2, h3, h4, h5⟩ := h
  refine ⟨by rw [List.length_append, List.flatMap_append]; exact ho, h2.kept hg (ownNe fun g hg' e => (h4 g e).1 hg'), h3.kept hg (fun g hg' e => (h4 g e).2 hg'), fun g hg' => ?_, h5⟩
  rcases hat with e | e
  · rw [e] at hg'; exact h4 g hg'
  · rw [e] at hg'; injection hg' with hg'
    exact ⟨fun e2 => by have := (h2.lt g e2).2; omega, fun e2 => by have := (h3.lt g e2).2; omega⟩
theorem RowsR.appM {x : Int} {v' : Value} (h : RowsR w B vs vm vq st ms qs) (ho : w'.ownsRow B 3 1 v' (ms.length + 1) (ms.flatMap ci ++ [.int .i64 x])) (hg : w.grownBy w' vm.ownBlock) (hat : v'.ownBlock = vm.ownBlock ∨ v'.ownBlock = some w.heap.size) : RowsR w' B vs v' vq st (ms ++ [x]) qs := by
  obtain ⟨h1, h2, h3, h4, h5⟩ := h
  refine ⟨h1.kept hg (ownNe fun g hg' e => (h4 g hg').1 e), by rw [List.length_append, List.flatMap_append]; exact ho, h3.kept hg (fun g hg' e => h5 g e hg'), fun g hg' => ?_, fun g hg' => ?_⟩
  · rcases hat with e | e
    · rw [e]; exact h4 g hg'
    · exact ⟨fun e2 => by rw [e] at e2; injection e2 with e2; have := (h1.lt g hg').2; omega, (h4 g hg').2⟩
  · rcases hat with e | e
    · rw [e] at hg'; exact h5 g hg'
    · rw [e] at hg'; injection hg' with hg'
      exact fun e2 => by have := (h3.lt g e2).2; omega
theorem RowsR.appQ {xs : List Int} {v' : Value} (h : RowsR w B vs vm vq st ms qs) (ho : QRow w' B v' xs) (hg : w.grownBy w' vq.ownBlock) (hat : v'.ownBlock = vq.ownBlock ∨ ∀ g, v'.ownBlock = some g → w.heap.size ≤ g) : RowsR w' B vs vm v' st ms xs := by
  obtain ⟨h1, h2, h3, h4, h5⟩ := h
  refine ⟨h1.kept hg (ownNe fun g hg' e => (h4 g hg').2 e), h2.kept hg (ownNe fun g hg' e => h5 g hg' e), ho, fun g hg' => ⟨(h4 g hg').1, fun e2 => ?_⟩, fun g hg' e2 => ?_⟩
  · rcases hat with e | e
    · rw [e] at e2; exact (h4 g hg').2 e2
    · have := e g e2; have := (h1.lt g hg').2; omega
  · rcases hat with e | e
    · rw [e] at e2; exact h5 g hg' e2
    · have := e g e2; have := (h2.lt g hg').2; omega

/-- block X says which ids have been seen -/
def SeenR (w : World) (X : Nat) (st ms : List Int) : Prop := ∃ m C, m ≤ st.length + ms.length ∧ MapI Try.prog 3 w X m C ∧ ∀ i, C i = if i ∈ st ++ ms then some (.bool true) else none
theorem SeenR.kept {X : Nat} {row : Option Nat} (h : SeenR w X st ms) (hg : w.grownBy w' row) (hr : ∀ g, row = some g → g ≠ X) : SeenR w' X st ms := by
  obtain ⟨m, C, h1, h2, h3⟩ := h
  exact ⟨m, C, h1, h2.kept hg (fun e => hr X e.symm rfl), h3⟩
theorem SeenR.made (w : World) : SeenR (w.alloc (.map #[] 0)) w.heap.size [] [] := ⟨0, _, Nat.le_refl _, MapI.made w _ _, fun i => by simp⟩
theorem SeenR.ask {X : Nat} (h : SeenR w X st ms) {i : Int} (hi : (Lit.int .i64 i).wf = true) : (Instr.lookup 117 (.map (some X)) (.int .i64 i) false).run Try.prog w = .ok (.bool (decide (i ∈ st ++ ms))) w := by
  obtain ⟨m, C, h1, h2, h3⟩ := h
  have hz : (zeroValue 4).run Try.prog w = .ok (.bool false) w := Try.zeroValue4 w
  rw [h2.get (t := 117) Try.underlying3 Try.underlying117 hz hi, h3 i]
  by_cases e : i ∈ st ++ ms <;> simp only [if_pos, if_neg, e, decide_true, decide_false, Option.getD_some, Option.getD_none, not_false_eq_true]
theorem SeenR.put {X : Nat} (h : SeenR w X st ms) {i : Int} (hi : (Lit.int .i64 i).wf = true) (hl : st.length + ms.length ≤ 1048576) :
    ∃ w2, (Instr.mapUpdate 117 (.map (some X)) (.int .i64 i) (.bool true)).run Try.prog w = .ok () w2 ∧ SeenR w2 X (st ++ [i]) ms ∧ SeenR w2 X st (ms ++ [i]) ∧ w.grownBy w2 (some X) := by
  obtain ⟨m, C, h1, h2, h3⟩ := h
  obtain ⟨w2, hrun, hM, hg⟩ := h2.set (t := 117) Try.underlying3 Try.underlying117 (by unfold maxLen; omega) hi (.bool true)
  refine ⟨w2, hrun, ⟨_, _, ?_, hM, fun j => ?_⟩, ⟨_, _, ?_, hM, fun j => ?_⟩, hg⟩
  · simp; omega
  · by_cases e : j = i
    · subst e; rw [if_pos rfl, if_pos (by simp)]
    · rw [if_neg e, h3 j]
      simp [e]
  · simp; omega
  · by_cases e : j = i
    · subst e; rw [if_pos rfl, if_pos (by simp)]
    · rw [if_neg e, h3 j]
      simp [e]
/-- what an id leads to -/
theorem OMap.ask {lo hi b : Nat} {M : Int → Option ObjD} (h : OMap w lo hi b M) {i : Int} (hi' : (Lit.int .i64 i).wf = true) :
    ∃ A n c, (Instr.lookup 93 (.map (some b)) (.int .i64 i) true).run Try.prog w = .ok (.tuple #[.agg #[.int .i64 ((M i).getD ⟨0, [], ⟨#[]⟩⟩).kind, .slice A n c, .string ((M i).getD ⟨0, [], ⟨#[]⟩⟩).text], .bool (M i).isSome]) w ∧
      ∀ o, M i = some o → D.rd w lo hi (intsD o.links) (.slice A n c) := by
  obtain ⟨C, m, h1, h2⟩ := h
  have hz : (zeroValue 58).run Try.prog w = .ok (.agg #[.int .i64 0, .slice none 0 0, .string ⟨#[]⟩]) w := Try.zeroValue58 w
  have hask := h1.ask (t := 93) Try.underlying3 Try.underlying93 hz hi'
  rcases hM : M i with _ | o
  · rw [(h2 i).1 hM] at hask
    exact ⟨none, 0, 0, hask, fun o h => by cases h⟩
  · obtain ⟨A, n, c, hC, hr⟩ := (h2 i).2 o hM
    rw [hC] at hask
    refine ⟨A, n, c, hask, fun o' ho => ?_⟩
    injection ho with ho; subst ho
    exact hr
theorem OMap.kept {lo hi b : Nat} {M : Int → Option ObjD} {row : Option Nat} (h : OMap w lo hi b M) (hh : hi ≤ w.heap.size) (hg : w.grownBy w' row) (hr : ∀ g, row = some g → g ≠ b ∧ hi ≤ g) : OMap w' lo hi b M := by
  obtain ⟨C, m, h1, h2⟩ := h
  refine ⟨C, m, h1.kept hg (fun e => (hr b e.symm).1 rfl), fun i => ⟨(h2 i).1, fun o ho => ?_⟩⟩
  obtain ⟨A, n, c, k1, k2⟩ := (h2 i).2 o ho
  exact ⟨A, n, c, k1, k2.grown hg hh (fun g e => .inr (hr g e).2)⟩
end
theorem sortInt_g (xs : List Int) (A : Option Addr) (n c base : Nat) (w : World) (hn20 : n ≤ 1048576) (h : w.ownsRow base 3 1 (.slice A n c) n (xs.flatMap ci)) :
    Calls Try.prog 103 #[.slice A n c] w fun e w' => e = .returned (.tuple #[]) ∧ w'.ownsRow base 3 1 (.slice A n c) n ((srt xs).flatMap ci) ∧ w.grownBy w' (Value.ownBlock (.slice A n c)) := by
  have hl : xs.length = n := by
    have := h.1
    rw [flat_len ci 1 ci_len] at this
    omega
  rcases Nat.eq_zero_or_pos n with h0 | h0
  · subst h0
    have hx : xs = [] := List.eq_nil_of_length_eq_zero hl
    subst hx
    refine (Try.slices_Sort_int_none A c w).mono ?_
    rintro e w' ⟨rfl, rfl⟩
    exact ⟨rfl, by unfold srt; simpa using h, World.grownBy.refl _ _⟩
  · rcases h.2 with ⟨e1, -⟩ | ⟨g, cap, cur, e1, hb, hh, hn, hm, hs, ht⟩
    · injection e1 with _ e2 _; omega
    · injection e1 with e1 e2 e3
      subst e1 e3
      subst hl
      have hlt : g < w.heap.size := by
        rcases Nat.lt_or_ge g w.heap.size with hlt | hge
        · exact hlt
        · rw [Array.getElem?_eq_none hge] at hh; cases hh
      have ht' : cur.toList.take xs.length = xs.map (Value.int .i64) := by
        rw [Nat.mul_one] at ht
        rw [ht, flat_ci]
      refine (Try.slices_Sort_int g 0 c xs w (holds_of_blockI hh ht') hlt (by omega)).mono ?_
      rintro e w' ⟨rfl, q, os, rfl⟩
      have h1 := ownsRow_sortedI (base := base) (n := q) (os := os) (srt_len xs) hb hh hn hm hs
      rw [flat_ci]
      exact ⟨rfl, h1, grownBy_sortedI _⟩

end Go.Proofs.Ytgpjcmplnigmcaa
