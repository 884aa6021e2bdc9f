/-
  The walk of l21Begin of the reference: the state without records, in new memory. No condition.
-/
import Derived.Test.YtgnhanbdfohjaaaSpecB
import Derived.Test.YtgnhanbdfohjaaaK3
namespace Go.Proofs.Ytgnhanbdfohjaaa
set_option linter.unusedVariables false
set_option linter.unusedSimpArgs false
open Go.RowKit

/-- refs and locks in memory -/
def StIn (w : World) (lo : Nat) (A1 : Option Addr) (c1 : Nat) (A2 : Option Addr) (c2 : Nat) (s : St) : Prop :=
  FlH ci w lo A1 4 s.refs ∧ FlH ci w lo A2 4 s.locks ∧ 4 ≤ c1 ∧ c1 ≤ 9223372036854775807 ∧ 4 ≤ c2 ∧ c2 ≤ 9223372036854775807
section
variable {w w' : World} {lo lo' : Nat} {A1 A2 : Option Addr} {c1 c2 : Nat} {s : St}
theorem StIn.refs (h : StIn w lo A1 c1 A2 c2 s) : FlH ci w lo A1 4 s.refs := h.1
theorem StIn.locks (h : StIn w lo A1 c1 A2 c2 s) : FlH ci w lo A2 4 s.locks := h.2.1
theorem StIn.bel (h : StIn w lo A1 c1 A2 c2 s) (hb : Below w.heap.size w w') : StIn w' lo A1 c1 A2 c2 s := ⟨h.1.bel hb, h.2.1.bel hb, h.2.2⟩
theorem StIn.drewN (h : StIn w lo A1 c1 A2 c2 s) (k : Nat) : StIn (w.drewN k) lo A1 c1 A2 c2 s := h
theorem StIn.alloc (h : StIn w lo A1 c1 A2 c2 s) (o : Obj) : StIn (w.alloc o) lo A1 c1 A2 c2 s := ⟨h.1.alloc o, h.2.1.alloc o, h.2.2⟩
theorem StIn.grown (h : StIn w lo A1 c1 A2 c2 s) {row : Option Nat} (hg : w.grownBy w' row) (hr : ∀ g, row = some g → g < lo) : StIn w' lo A1 c1 A2 c2 s := ⟨h.1.grown hg hr, h.2.1.grown hg hr, h.2.2⟩
theorem StIn.low (h : StIn w lo A1 c1 A2 c2 s) (hl : lo' ≤ lo) : StIn w lo' A1 c1 A2 c2 s := ⟨h.1.low hl, h.2.1.low hl, h.2.2⟩
end
/-- refs and locks handed back -/
def StRet (s : St) (lo : Nat) (w : World) (e : Ending) (w' : World) : Prop :=
  ∃ A1 c1 A2 c2, e = .returned (.agg #[.slice A1 4 c1, .slice A2 4 c2]) ∧ StIn w' lo A1 c1 A2 c2 s ∧ Below w.heap.size w w'

/-- two rows that grow, named by a block of two cells -/
def TwoC (w : World) (base g : Nat) (v1 v2 : Value) (k1 k2 : Nat) : Prop := w.heap[g]? = some (.cells #[v1, v2] 30 (0, 0)) ∧
  w.ownsRow base 3 1 v1 k1 ((List.replicate k1 (-1 : Int)).flatMap ci) ∧ w.ownsRow base 3 1 v2 k2 ((List.replicate k2 (-1 : Int)).flatMap ci) ∧ (∀ q, v1.ownBlock = some q → v2.ownBlock = some q → False)
theorem rep_app (k : Nat) : (List.replicate (k + 1) (-1 : Int)).flatMap ci = (List.replicate k (-1 : Int)).flatMap ci ++ [.int .i64 (-1)] := by
  rw [show List.replicate (k + 1) (-1 : Int) = List.replicate k (-1) ++ [-1] from List.replicate_succ', List.flatMap_append]; rfl

theorem set_grown (w : World) (g o : Nat) (v : Value) : w.grownBy (w.setCell ⟨g, o, none⟩ v) (some g) :=
  ⟨rfl, rfl, rfl, by simp [World.setCell], fun i hi hne => Below.heap_setCell _ _ _ _ (fun e => hne (by rw [e]))⟩
theorem heap_lt {w : World} {g : Nat} {o : Obj} (h : w.heap[g]? = some o) : g < w.heap.size := by
  rcases Nat.lt_or_ge g w.heap.size with hlt | hge
  · exact hlt
  · rw [Array.getElem?_eq_none hge] at h; cases h
/-- the row of the first cell has grown -/
theorem two_first {w w1 w2 : World} {base g k : Nat} {k2 : Nat} {v1 v2 v1' : Value} {ob : Obj} (hg : g < base) (h : TwoC w base g v1 v2 k k2)
    (e1 : w1 = w.alloc ob) (hown : w2.ownsRow base 3 1 v1' (k + 1) ((List.replicate k (-1 : Int)).flatMap ci ++ [.int .i64 (-1)])) (hgr : w1.grownBy w2 v1.ownBlock) (hat : v1'.ownBlock = v1.ownBlock ∨ v1'.ownBlock = some w1.heap.size) :
    w2.heap[g]? = some (.cells #[v1, v2] 30 (0, 0)) ∧ TwoC (w2.setCell ⟨g, 0, none⟩ v1') base g v1' v2 (k + 1) k2 := by
  subst e1
  obtain ⟨h0, h1, h2, hd⟩ := h
  have hg0 := heap_lt h0
  have hg1 : (w.alloc ob).heap[g]? = some (.cells #[v1, v2] 30 (0, 0)) := (Below.heap_alloc w ob g hg0).trans h0
  have hg2 : w2.heap[g]? = some (.cells #[v1, v2] 30 (0, 0)) := (hgr.block g (heap_lt hg1) (fun e => by have := (h1.lt g e.symm).1; omega)).trans hg1
  have hset : (w2.setCell ⟨g, 0, none⟩ v1').heap[g]? = some (.cells #[v1', v2] 30 (0, 0)) := by
    rw [heap_setCell_same w2 g 0 _ _ _ hg2]; rfl
  have hkeep : ∀ {v n cs}, w2.ownsRow base 3 1 v n cs → (w2.setCell ⟨g, 0, none⟩ v1').ownsRow base 3 1 v n cs := fun {v n cs} h => by
    refine h.kept (row := some g) ⟨rfl, rfl, rfl, by simp [World.setCell], fun i hi hne => Below.heap_setCell _ _ _ _ (fun e => hne (by rw [e]))⟩ ?_
    rcases hv : v.ownBlock with _ | q
    · exact .inl rfl
    · refine .inr (fun e => ?_)
      injection e with e
      have := (h.lt q hv).1; omega
  have h2' : w2.ownsRow base 3 1 v2 k2 ((List.replicate k2 (-1 : Int)).flatMap ci) := by
    refine (h2.alloc ob).kept hgr ?_
    rcases hv : v2.ownBlock with _ | q
    · exact .inl rfl
    · exact .inr (fun e => hd q e.symm hv)
  refine ⟨hg2, hset, hkeep (by rw [rep_app]; exact hown), hkeep h2', fun q hq hq2 => ?_⟩
  rcases hat with hat | hat
  · exact hd q (hat ▸ hq) hq2
  · rw [hat] at hq
    injection hq with hq
    have := (h2.lt q hq2).2
    have e : (w.alloc ob).heap.size = w.heap.size + 1 := by simp
    omega
theorem two_second {w w1 w2 : World} {base g k : Nat} {k1 : Nat} {v1 v2 v2' : Value} {ob : Obj} (hg : g < base) (h : TwoC w base g v1 v2 k1 k)
    (e1 : w1 = w.alloc ob) (hown : w2.ownsRow base 3 1 v2' (k + 1) ((List.replicate k (-1 : Int)).flatMap ci ++ [.int .i64 (-1)])) (hgr : w1.grownBy w2 v2.ownBlock) (hat : v2'.ownBlock = v2.ownBlock ∨ v2'.ownBlock = some w1.heap.size) :
    w2.heap[g]? = some (.cells #[v1, v2] 30 (0, 0)) ∧ TwoC (w2.setCell ⟨g, 1, none⟩ v2') base g v1 v2' k1 (k + 1) := by
  subst e1
  obtain ⟨h0, h1, h2, hd⟩ := h
  have hg0 := heap_lt h0
  have hg1 : (w.alloc ob).heap[g]? = some (.cells #[v1, v2] 30 (0, 0)) := (Below.heap_alloc w ob g hg0).trans h0
  have hg2 : w2.heap[g]? = some (.cells #[v1, v2] 30 (0, 0)) := (hgr.block g (heap_lt hg1) (fun e => by have := (h2.lt g e.symm).1; omega)).trans hg1
  have hset : (w2.setCell ⟨g, 1, none⟩ v2').heap[g]? = some (.cells #[v1, v2'] 30 (0, 0)) := by
    rw [heap_setCell_same w2 g 1 _ _ _ hg2]; rfl
  have hkeep : ∀ {v n cs}, w2.ownsRow base 3 1 v n cs → (w2.setCell ⟨g, 1, none⟩ v2').ownsRow base 3 1 v n cs := fun {v n cs} h => by
    refine h.kept (row := some g) ⟨rfl, rfl, rfl, by simp [World.setCell], fun i hi hne => Below.heap_setCell _ _ _ _ (fun e => hne (by rw [e]))⟩ ?_
    rcases hv : v.ownBlock with _ | q
    · exact .inl rfl
    · refine .inr (fun e => ?_)
      injection e with e
      have := (h.lt q hv).1; omega
  have h1' : w2.ownsRow base 3 1 v1 k1 ((List.replicate k1 (-1 : Int)).flatMap ci) := by
    refine (h1.alloc ob).kept hgr ?_
    rcases hv : v1.ownBlock with _ | q
    · exact .inl rfl
    · exact .inr (fun e => hd q hv e.symm)
  refine ⟨hg2, hset, hkeep h1', hkeep (by rw [rep_app]; exact hown), fun q hq2 hq => ?_⟩
  rcases hat with hat | hat
  · exact hd q hq2 (hat ▸ hq)
  · rw [hat] at hq
    injection hq with hq
    have := (h1.lt q hq2).2
    have e : (w.alloc ob).heap.size = w.heap.size + 1 := by simp
    omega

set_option maxRecDepth 100000 in
set_option maxHeartbeats 1600000 in
theorem l21Begin_any (w : World) : Calls Try.prog 56 #[] w fun e w' => StRet st0 w.heap.size w e w' := by
  have hT0 : Hid (TwoC ((w.alloc (.cells #[.slice none 0 0, .slice none 0 0] 30)).alloc (.cells #[.slice none 0 0, .slice none 0 0] 30)) (w.heap.size + 2) (w.heap.size + 1) (.slice none 0 0) (.slice none 0 0) 0 0) :=
    ⟨by simpa using heap_alloc_new (w.alloc (.cells #[.slice none 0 0, .slice none 0 0] 30)) (.cells #[.slice none 0 0, .slice none 0 0] 30), World.ownsRow_nil _ _ _ _, World.ownsRow_nil _ _ _ _, fun q h => by cases h⟩
  have hR0 : Hid (((w.alloc (.cells #[.slice none 0 0, .slice none 0 0] 30)).alloc (.cells #[.slice none 0 0, .slice none 0 0] 30)).heap[w.heap.size]? = some (.cells #[.slice none 0 0, .slice none 0 0] 30 (0, 0))) :=
    (Below.heap_alloc _ _ w.heap.size (by simp)).trans (heap_alloc_new w _)
  go_enter Try.func56, Try.ntmps56
  go_wp2_with fail
  go_loopw [2] (fun i wr => ∃ k : Nat, k ≤ 4 ∧ i = .int .i64 k ∧ (∃ v1 v2, TwoC wr (w.heap.size + 2) (w.heap.size + 1) v1 v2 k k) ∧ wr.heap[w.heap.size]? = some (.cells #[.slice none 0 0, .slice none 0 0] 30 (0, 0)) ∧ Below w.heap.size w wr) (fun i _ => 4 - (intOf i).toNat)
  case atStart => exact ⟨0, Nat.zero_le _, rfl, ⟨_, _, hT0.out⟩, hR0.out, ((Below.refl _ _).alloc (Nat.le_refl _) _).alloc (by simp) _⟩
  case round =>
    obtain ⟨k, hk, rfl, ⟨v1, v2, hT⟩, hR, hb⟩ := hrel
    have HT := Lib.hid hT
    have HR := Lib.hid hR
    have HB := Lib.hid hb
    have hsz : w.heap.size + 1 < wr.heap.size := heap_lt hT.1
    have hf0 := frozen_of_row wr (w.heap.size + 1) 0 _ _ hT.1
    have hf1 := frozen_of_row wr (w.heap.size + 1) 1 _ _ hT.1
    have hc0 : wr.cell? ⟨w.heap.size + 1, 0, none⟩ = some v1 := cell_of_row wr (w.heap.size + 1) 0 _ _ _ hT.1
    have hc1 : wr.cell? ⟨w.heap.size + 1, 1, none⟩ = some v2 := cell_of_row wr (w.heap.size + 1) 1 _ _ _ hT.1
    have ho1 := Lib.hid hT.2.1
    obtain ⟨A1, c1, rfl, hkc1, hm1, hr1⟩ := own_intsH hT.2.1
    obtain ⟨A2, c2, rfl, hkc2, hm2, hr2⟩ := own_intsH hT.2.2.1
    have HI1 := Lib.hid hr1
    have HI2 := Lib.hid hr2
    clear hT hR hb hr1 hr2 hT0 hR0
    by_cases hlt : k < 4
    · have tok1 : True := trivial
      have hgb : w.heap.size + 1 < w.heap.size + 2 := by omega
      go_wp2_with (first | (at_builtin; have _t := tok1; go_must (refine wpList_app_at Try.elInt (HT.out.2.1.alloc _) (rd_new _ [.int .i64 (-1)] _) rfl (by simp [Value.oneCell']) (by unfold maxLen; omega) (by omega) (by simp; omega) rfl rfl rfl rfl ?_); intro v1' w2 hown6 hg6 hat6; have hm := two_first hgb HT.out rfl hown6 hg6 hat6; have HT3 := Lib.hid hm.2; have HH2 := Lib.hid hm.1; have HB2 := Lib.hid ((HB.out.alloc (by omega) _).grown hg6 (by simp; omega) (fun q hq => by have := (HT.out.2.1.lt q hq).1; omega)); obtain ⟨A1', c1', rfl, hkc1', hm1', -⟩ := own_intsH (xs := List.replicate (k + 1) (-1 : Int)) (by rw [rep_app]; exact hown6); have hsz2 : w.heap.size + 1 < w2.heap.size := heap_lt hm.1; have hf20 := frozen_of_row w2 (w.heap.size + 1) 0 _ _ hm.1; have hf21 := frozen_of_row w2 (w.heap.size + 1) 1 _ _ hm.1; have hc20 : w2.cell? ⟨w.heap.size + 1, 0, none⟩ = some (.slice A1 k c1) := cell_of_row w2 (w.heap.size + 1) 0 _ _ _ hm.1; have hc21 : w2.cell? ⟨w.heap.size + 1, 1, none⟩ = some (.slice A2 k c2) := cell_of_row w2 (w.heap.size + 1) 1 _ _ _ hm.1; have hR2 : Hid (w2.heap[w.heap.size]? = some (.cells #[.slice none 0 0, .slice none 0 0] 30 (0, 0))) := (hg6.block w.heap.size (by simp; omega) (fun e => by have := (HT.out.2.1.lt _ e.symm).1; omega)).trans ((Below.heap_alloc wr _ w.heap.size (by omega)).trans HR.out); have tok2 : True := trivial; clear tok1 hown6 hg6 hat6 hm) | (at_builtin; have _t := tok2; go_must (refine wpList_app_at Try.elInt (HT3.out.2.2.1.alloc _) (rd_newn (n := w2.heap.size) (by simp) [.int .i64 (-1)] _) rfl (by simp [Value.oneCell']) (by unfold maxLen; omega) (by omega) (by simp; omega) rfl rfl rfl rfl ?_); intro v2' w5 hown7 hg7 hat7; have hm2 := two_second hgb HT3.out rfl hown7 hg7 hat7; have HT5 := Lib.hid hm2.2; obtain ⟨A2', c2', rfl, hkc2', hm2', -⟩ := own_intsH (xs := List.replicate (k + 1) (-1 : Int)) (by rw [rep_app]; exact hown7); have hf50 := frozen_of_row w5 (w.heap.size + 1) 0 _ _ hm2.1; have hf51 := frozen_of_row w5 (w.heap.size + 1) 1 _ _ hm2.1; have hc50 : w5.cell? ⟨w.heap.size + 1, 0, none⟩ = some (.slice A1' (k + 1) c1') := cell_of_row w5 (w.heap.size + 1) 0 _ _ _ hm2.1; have hc51 : w5.cell? ⟨w.heap.size + 1, 1, none⟩ = some (.slice A2 k c2) := cell_of_row w5 (w.heap.size + 1) 1 _ _ _ hm2.1; have HB5 := Lib.hid (((HB2.out.setCell (p := ⟨w.heap.size + 1, 0, none⟩) (by simp) (.slice A1' (k + 1) c1')).alloc (by simp; omega) _).grown hg7 (by simp; omega) (fun q hq => by have := (HT3.out.2.2.1.lt q hq).1; omega)); have HR5 : Hid (w5.heap[w.heap.size]? = some (.cells #[.slice none 0 0, .slice none 0 0] 30 (0, 0))) := (hg7.block w.heap.size (by simp; omega) (fun e => by have := (HT3.out.2.2.1.lt _ e.symm).1; omega)).trans ((Below.heap_alloc _ _ w.heap.size (by simp; omega)).trans ((Below.heap_setCell _ _ _ w.heap.size (by simp)).trans hR2.out)); clear tok2 hown7 hg7 hat7 hm2))
      exact ⟨⟨k + 1, by omega, by go_num, ⟨_, _, HT5.out⟩, (Below.heap_setCell _ _ _ w.heap.size (by simp)).trans HR5.out, HB5.out.setCell (by simp) _⟩, by simp [intOf]; omega⟩
    · have hk4 : k = 4 := by omega
      subst hk4
      have hg := HR.out
      have hcr0 : wr.cell? ⟨w.heap.size, 0, none⟩ = some (.slice none 0 0) := cell_of_row wr (w.heap.size) 0 _ _ _ HR.out
      have hcr1 : wr.cell? ⟨w.heap.size, 1, none⟩ = some (.slice none 0 0) := cell_of_row wr (w.heap.size) 1 _ _ _ HR.out
      have hfr0 := frozen_of_row wr (w.heap.size) 0 _ _ HR.out
      have hfr1 := frozen_of_row wr (w.heap.size) 1 _ _ HR.out
      clear hg
      have hgo : ∀ g, some w.heap.size = some g → g < w.heap.size + 2 := fun g e => by injection e with e; omega
      go_wp2_with fail
      refine bodyPost_ret (v := .agg #[.slice A1 4 c1, .slice A2 4 c2]) (by simp [results, Try.results56, go_sem, hcr0, hcr1]) rfl ⟨A1, c1, A2, c2, rfl, ⟨?_, ?_, hkc1, hm1, hkc2, hm2⟩, ?_⟩
      · exact (FlH.grown (FlH.grown HI1.out (set_grown _ _ _ _) hgo) (set_grown _ _ _ _) hgo).low (by omega)
      · exact (FlH.grown (FlH.grown HI2.out (set_grown _ _ _ _) hgo) (set_grown _ _ _ _) hgo).low (by omega)
      · exact (HB.out.setCell (by simp) _).setCell (by simp) _

end Go.Proofs.Ytgnhanbdfohjaaa
