/-
  Records in memory: rows of updates and rows of records that lie in blocks from 'lo' on, read as plain lists, and how such a reading is kept. No condition.
  The walks of l12Txn, l21Ask, l21Updates of the reference: a transaction's state and updates among records. Condition: lengths fit an int64.
  The walks of RefsApply itself, of the program and of the reference. Condition: lengths fit an int64.
  append onto a row of the call's own, as one step of a region that draws its order. Plain law over any program.
-/
import Derived.Test.YtgbkjfhmbchiiaaM8
import Derived.Test.YtgbkjfhmbchiiaaM2
import Derived.Test.YtgbkjfhmbchiiaaM6
import Derived.Test.YtgbkjfhmbchiiaaM3
import Derived.Deep.RegionLaw
namespace Go.Proofs.Ytgbkjfhmbchiiaa
set_option linter.unusedVariables false
set_option linter.unusedSimpArgs false
open Go.RowKit

/-- flat elements in blocks from lo on -/
def FlH {α : Type} (f : α → List Value) (w : World) (lo : Nat) (A : Option Addr) (n : Nat) (xs : List α) : Prop := Fl f w lo w.heap.size A n xs
section
variable {α : Type} {f : α → List Value} {w w' : World} {lo lo' C n : Nat} {A : Option Addr} {xs : List α}
theorem FlH.below (h : FlH f w lo A n xs) (hb : Below C w w') (hC : w.heap.size ≤ C) (hs : w.heap.size ≤ w'.heap.size) : FlH f w' lo A n xs := (Fl.below h hb hC).more (Nat.le_refl _) hs
theorem FlH.bel (h : FlH f w lo A n xs) (hb : Below w.heap.size w w') : FlH f w' lo A n xs := h.below hb (Nat.le_refl _) hb.size
theorem FlH.drewN (h : FlH f w lo A n xs) (k : Nat) : FlH f (w.drewN k) lo A n xs := h
theorem FlH.alloc (h : FlH f w lo A n xs) (o : Obj) : FlH f (w.alloc o) lo A n xs := (Fl.alloc h (Nat.le_refl _) o).more (Nat.le_refl _) (by simp)
theorem FlH.grown (h : FlH f w lo A n xs) {row : Option Nat} (hg : w.grownBy w' row) (hr : ∀ g, row = some g → g < lo) : FlH f w' lo A n xs := (Fl.grown h hg (Nat.le_refl _) fun g e => .inl (hr g e)).more (Nat.le_refl _) hg.size
theorem FlH.low (h : FlH f w lo A n xs) (hl : lo' ≤ lo) : FlH f w lo' A n xs := Fl.more h hl (Nat.le_refl _)
theorem FlH.nil (f : α → List Value) (w : World) (lo : Nat) (A : Option Addr) : FlH f w lo A 0 [] := Fl.nil _ _ _ _ _
end

/-- a record, with the row of its updates -/
structure RecC where
  kind : Int
  txn : Int
  A : Option Addr
  n : Nat
  c : Nat
  us : List Upd
def RecC.ab (r : RecC) : Rec := ⟨r.kind, r.txn, r.us⟩
/-- a record's cells -/
def cr (r : RecC) : List Value := [.int .i64 r.kind, .int .i64 r.txn, .slice r.A r.n r.c]
theorem cr_len (r : RecC) : (cr r).length = 3 := rfl
def rv (r : RecC) : Value := .agg #[.int .i64 r.kind, .int .i64 r.txn, .slice r.A r.n r.c]
/-- its updates lie in memory -/
def RecIn (w : World) (lo : Nat) (r : RecC) : Prop := FlH cu w lo r.A r.n r.us ∧ r.n ≤ r.c ∧ r.c ≤ 9223372036854775807
theorem RecIn.bd {w : World} {lo : Nat} {r : RecC} (h : RecIn w lo r) : r.n ≤ 9223372036854775807 := Nat.le_trans h.2.1 h.2.2
/-- records in memory -/
def Recs (w : World) (lo : Nat) (A : Option Addr) (n : Nat) (rs : List RecC) : Prop := FlH cr w lo A n rs ∧ ∀ r ∈ rs, RecIn w lo r
def abs (rs : List RecC) : List Rec := rs.map RecC.ab
theorem abs_len (rs : List RecC) : (abs rs).length = rs.length := List.length_map _
theorem abs_take (rs : List RecC) (k : Nat) : abs (rs.take k) = (abs rs).take k := List.map_take
section
variable {w w' : World} {lo lo' C n : Nat} {A : Option Addr} {rs : List RecC} {r : RecC}
theorem RecIn.bel (h : RecIn w lo r) (hb : Below w.heap.size w w') : RecIn w' lo r := ⟨h.1.bel hb, h.2⟩
theorem RecIn.drewN (h : RecIn w lo r) (k : Nat) : RecIn (w.drewN k) lo r := h
theorem RecIn.alloc (h : RecIn w lo r) (o : Obj) : RecIn (w.alloc o) lo r := ⟨h.1.alloc o, h.2⟩
theorem RecIn.grown (h : RecIn w lo r) {row : Option Nat} (hg : w.grownBy w' row) (hr : ∀ g, row = some g → g < lo) : RecIn w' lo r := ⟨h.1.grown hg hr, h.2⟩
theorem RecIn.low (h : RecIn w lo r) (hl : lo' ≤ lo) : RecIn w lo' r := ⟨h.1.low hl, h.2⟩
theorem Recs.nil (w : World) (lo : Nat) (A : Option Addr) : Recs w lo A 0 [] := ⟨FlH.nil _ _ _ _, fun r hr => by cases hr⟩
theorem Recs.bel (h : Recs w lo A n rs) (hb : Below w.heap.size w w') : Recs w' lo A n rs := ⟨h.1.bel hb, fun r hr => (h.2 r hr).bel hb⟩
theorem Recs.drewN (h : Recs w lo A n rs) (k : Nat) : Recs (w.drewN k) lo A n rs := h
theorem Recs.alloc (h : Recs w lo A n rs) (o : Obj) : Recs (w.alloc o) lo A n rs := ⟨h.1.alloc o, fun r hr => (h.2 r hr).alloc o⟩
theorem Recs.grown (h : Recs w lo A n rs) {row : Option Nat} (hg : w.grownBy w' row) (hr : ∀ g, row = some g → g < lo) : Recs w' lo A n rs := ⟨h.1.grown hg hr, fun r hq => (h.2 r hq).grown hg hr⟩
theorem Recs.low (h : Recs w lo A n rs) (hl : lo' ≤ lo) : Recs w lo' A n rs := ⟨h.1.low hl, fun r hr => (h.2 r hr).low hl⟩
theorem Fl.take {α : Type} {f : α → List Value} {hi : Nat} {xs : List α} (h : Fl f w lo hi A n xs) {k : Nat} (hk : k ≤ n) : Fl f w lo hi A k (xs.take k) := by
  refine ⟨by rw [List.length_take, h.1]; omega, fun hne => ?_⟩
  have e : xs.flatMap f = (xs.take k).flatMap f ++ (xs.drop k).flatMap f := by rw [← List.flatMap_append, List.take_append_drop]
  obtain ⟨b, o, h1, h2, h3, hc⟩ := h.2 (by rw [e]; intro h; exact hne (List.append_eq_nil_iff.1 h).1)
  refine ⟨b, o, h1, h2, h3, fun j u hu => hc j u ?_⟩
  rw [e, List.getElem?_append_left (List.getElem?_eq_some_iff.1 hu).1]; exact hu
theorem Recs.take (h : Recs w lo A n rs) {k : Nat} (hk : k ≤ n) : Recs w lo A k (rs.take k) := ⟨Fl.take h.1 hk, fun r hr => h.2 r (List.mem_of_mem_take hr)⟩
theorem Recs.at_ (h : Recs w lo A n rs) {k : Nat} (hk : k < n) :
    ∃ (b o : Nat) (hl : k < rs.length), A = some ⟨b, o, none⟩ ∧ lo ≤ b ∧ b < w.heap.size ∧ w.cell? ⟨b, o + k * 3, none⟩ = some (.int .i64 rs[k].kind) ∧ w.cell? ⟨b, o + k * 3 + 1, none⟩ = some (.int .i64 rs[k].txn) ∧
      w.cell? ⟨b, o + k * 3 + 2, none⟩ = some (.slice rs[k].A rs[k].n rs[k].c) ∧ RecIn w lo rs[k] := by
  obtain ⟨b, o, hl, rfl, g1, g2, hc⟩ := Fl.at_ h.1 cr_len (by omega) hk
  exact ⟨b, o, hl, rfl, g1, g2, hc 0 _ rfl, hc 1 _ rfl, hc 2 _ rfl, h.2 _ (List.getElem_mem hl)⟩
end

end Go.Proofs.Ytgbkjfhmbchiiaa

namespace Go.Proofs.Ytgbkjfhmbchiiaa
set_option linter.unusedVariables false
set_option linter.unusedSimpArgs false
open Go.RowKit

theorem askK_snoc (rs : List Rec) (r : Rec) (t : Int) : askK (rs ++ [r]) t = if r.txn = t then r.kind else askK rs t := by
  unfold askK; rw [lastRc_snoc]; by_cases h : r.txn = t
  · rw [if_pos h, if_pos h]; rfl
  · rw [if_neg h, if_neg h]
theorem abs_take_succ {rs : List RecC} {k : Nat} (h : k < rs.length) : abs (rs.take (k + 1)) = abs (rs.take k) ++ [rs[k].ab] := by
  rw [List.take_succ_eq_append_getElem h]; unfold abs; rw [List.map_append]; rfl

theorem prepU_snoc (rs : List Rec) (r : Rec) (t : Int) (h : ∀ x ∈ rs, ¬ (x.txn = t ∧ x.kind = 1)) (l : List Rec) : prepU (rs ++ r :: l) t = if r.txn = t ∧ r.kind = 1 then r.us else prepU (rs ++ [r] ++ l) t := by
  by_cases hr : r.txn = t ∧ r.kind = 1
  · rw [if_pos hr]
    unfold prepU
    rw [List.find?_append]
    have h0 : List.find? (fun x => decide (x.txn = t) && decide (x.kind = 1)) rs = none := by
      rw [List.find?_eq_none]; intro x hx; simpa using h x hx
    rw [h0, Option.none_or, List.find?_cons_of_pos (by simp [hr])]
  · rw [if_neg hr, List.append_assoc, List.singleton_append]
theorem prepU_no {rs : List Rec} {t : Int} (h : ∀ x ∈ rs, ¬ (x.txn = t ∧ x.kind = 1)) : prepU rs t = [] := by
  unfold prepU
  have h0 : List.find? (fun x => decide (x.txn = t) && decide (x.kind = 1)) rs = none := by
    rw [List.find?_eq_none]; intro x hx; simpa using h x hx
  rw [h0]

/-- updates in memory, handed back -/
def UpdRet (us : List Upd) (lo : Nat) (w : World) (e : Ending) (w' : World) : Prop :=
  ∃ A n c, e = .returned (.slice A n c) ∧ n ≤ c ∧ c ≤ 9223372036854775807 ∧ FlH cu w' lo A n us ∧ Below w.heap.size w w'

end Go.Proofs.Ytgbkjfhmbchiiaa

namespace Go.Proofs.Ytgbkjfhmbchiiaa
set_option linter.unusedVariables false
set_option linter.unusedSimpArgs false
open Go.RowKit

/-- what RefsApply leaves: new memory, and the answer -/
def ApplyR (xs : List Int) (us : List Upd) (w : World) (e : Ending) (w' : World) : Prop :=
  ∃ (t : TypeId) (v : Value), w'.ownsRow w.heap.size t 1 v (applyL xs us).length ((applyL xs us).flatMap ci) ∧ Below w.heap.size w w' ∧ e = .returned (.tuple #[v, .bool (applyB xs us)])
theorem applyL_bad {xs : List Int} {us : List Upd} (h : refsB xs = false ∨ updsB us = false) : applyL xs us = [] ∧ applyB xs us = false := by
  unfold applyL applyB
  rcases h with h | h <;> rw [h] <;> simp
theorem applyL_ok {xs : List Int} {us : List Upd} (h1 : refsB xs = true) (h2 : updsB us = true) : applyL xs us = appR xs us ∧ applyB xs us = fitsR xs us := by
  unfold applyL applyB appR
  rw [if_pos ⟨h1, h2⟩, h1, h2]; exact ⟨rfl, by simp⟩
theorem appR_len (xs : List Int) (us : List Upd) : (appR xs us).length = xs.length := by
  unfold appR; split
  · exact setR_len us xs
  · rfl
theorem ret_tup2 {v : Value} {b b' : Bool} (h : b = b') : Ending.returned (.tuple #[v, .bool b]) = .returned (.tuple #[v, .bool b']) := by rw [h]

theorem arrayAt4 (A : Option Addr) (c : Nat) (w : World) : (Instr.arrayAt 65 (.slice A 4 c)).run Try.prog w = .ok (.pointer A) w := by
  simp [Instr.arrayAt, run_underlying Try.underlying65]

theorem int_lit {w : World} {lo hi n : Nat} {A : Option Addr} {xs : List Int} (h : Ints w lo hi A n xs) {r : Int} (hl : n = 4) (h0 : 0 ≤ r) (h3 : r ≤ 3) :
    ∃ b o, A = some ⟨b, o, none⟩ ∧ lo ≤ b ∧ b < hi ∧ w.cell? ⟨b, o + r.toNat, none⟩ = some (.int .i64 (getR xs r)) := by
  obtain ⟨b, o, hk, rfl, g1, g2, hc⟩ := h.int (k := r.toNat) (by omega)
  refine ⟨b, o, rfl, g1, g2, ?_⟩
  rw [hc]
  unfold getR
  rw [List.getD_eq_getElem?_getD, List.getElem?_eq_getElem hk]; rfl

theorem Try.elInt : ElemT Try.prog 24 3 (.int .i64 0) 1 8 := ⟨Try.underlying24, by kernel_rfl, rfl, by decide⟩
theorem ci_set (vs : List Int) (j : Nat) (x : Int) : (vs.flatMap ci).set j (.int .i64 x) = (vs.set j x).flatMap ci := by
  rw [flat_ci, flat_ci, List.map_set]
theorem own_base {w : World} {base base' size n : Nat} {e : TypeId} {v : Value} {cs : List Value} (h : w.ownsRow base e size v n cs) (hb : base' ≤ base) : w.ownsRow base' e size v n cs := by
  obtain ⟨h1, h⟩ := h
  rcases h with h | ⟨g, cap, cur, a, b, r⟩
  · exact ⟨h1, .inl h⟩
  · exact ⟨h1, .inr ⟨g, cap, cur, a, Nat.le_trans hb b, r⟩⟩
theorem own_lit_from {w : World} {base size : Nat} {e : TypeId} (hb : base ≤ w.heap.size) : (w.alloc (.cells #[] e)).ownsRow base e size (.slice (some ⟨w.heap.size, 0, none⟩) 0 0) 0 [] := own_base (own_nil_lit w e size) hb
theorem own_slice {w : World} {base size n : Nat} {e : TypeId} {v : Value} {cs : List Value} (h : w.ownsRow base e size v n cs) (hn : 0 < n) : ∃ g c, v = .slice (some ⟨g, 0, none⟩) n c ∧ base ≤ g ∧ g < w.heap.size ∧ n ≤ c := by
  have h0 := h
  obtain ⟨_, h⟩ := h
  rcases h with ⟨_, rfl⟩ | ⟨g, cap, cur, rfl, hb, _, hnc, _⟩
  · omega
  · exact ⟨g, cap, rfl, hb, (h0.lt g rfl).2, hnc⟩

set_option maxRecDepth 100000 in
set_option maxHeartbeats 1600000 in
theorem specSet_any (A1 A2 : Option Addr) (c1 n2 c2 : Nat) (xs : List Int) (us : List Upd) (w : World) (lo hi lo' hi' : Nat) (hh : hi ≤ w.heap.size) (hh' : hi' ≤ w.heap.size) (hn2 : n2 ≤ 9223372036854775807) (hr : ∀ u ∈ us, 0 ≤ u.ref ∧ u.ref ≤ 3)
    (hx : Ints w lo hi A1 4 xs) (hu : Fl cu w lo' hi' A2 n2 us) :
    Calls Try.prog 64 #[.slice A1 4 c1, .slice A2 n2 c2] w fun e w' => ∃ v, w'.ownsRow w.heap.size 3 1 v 4 ((setR xs us).flatMap ci) ∧ Below w.heap.size w w' ∧ e = .returned v := by
  have HX := Lib.hid hx
  have HU := Lib.hid hu
  have HR := Lib.hid hr
  have hxl := Lib.hid hx.1
  clear hx hu hr
  have hown0 := Lib.hid (own_nil_lit w 3 1)
  go_enter Try.func64, Try.ntmps64
  go_wp2_with (at_builtin; go_must (refine wpList_app Try.elInt hown0.out (HX.out.2.alloc hh _) (by rw [flat_len ci 1 ci_len, hxl.out]) (by rw [flat_ci]; simp [Value.oneCell']) (by unfold maxLen; omega) (by omega) (by simp) rfl rfl rfl rfl ?_); intro v2 w2 hown2 hg2)
  rw [Nat.zero_add, List.nil_append] at hown2
  have HB2 := Lib.hid (below_app ((Below.refl w.heap.size w).alloc (Nat.le_refl _) (.cells #[] 3)) (Nat.le_refl _) (by simp) hown0.out hg2)
  obtain ⟨g, cg, rfl, hgb, -, hgc⟩ := own_slice hown2 (by omega)
  have HO2 := Lib.hid hown2
  clear hown2 hg2
  go_loopw [6] (fun i wr => ∃ k : Nat, k ≤ n2 ∧ i = .int .i64 k ∧ wr.ownsRow w.heap.size 3 1 (.slice (some ⟨g, 0, none⟩) 4 cg) 4 ((setR xs (us.take k)).flatMap ci) ∧ Below w.heap.size w wr) (fun i _ => n2 - (intOf i).toNat)
  case atStart => exact ⟨0, Nat.zero_le _, rfl, HO2.out, HB2.out⟩
  case round =>
    obtain ⟨k, hk, rfl, hown, hb⟩ := hrel
    have HO := Lib.hid hown
    have HB := Lib.hid hb
    have hwsz := hb.size
    clear hown hb
    by_cases hlt : k < n2
    · obtain ⟨b, o, hll, rfl, _, hbh, hc0, hc1, hc2⟩ := fl_upd (HU.out.below HB.out hh') hlt
      have hru := HR.out us[k] (List.getElem_mem hll)
      have hr0 := hru.1
      have hr3 := hru.2
      clear hru hc1
      have hst := (HO.out.stored us[k].ref.toNat (.int .i64 us[k].new_)).1
      rw [ci_set, show (setR xs (us.take k)).set us[k].ref.toNat us[k].new_ = setR xs (us.take (k + 1)) from by rw [List.take_succ_eq_append_getElem hll]; unfold setR; rw [List.foldl_append]; rfl] at hst
      obtain ⟨q, hq⟩ := Int.eq_ofNat_of_zero_le hr0
      rw [hq] at hst hc0 hr3
      have hq3 : q ≤ 3 := by omega
      have hq4 : (q : Int) < 4 := by omega
      obtain ⟨u0, hg0, hf0⟩ := own_cells HO.out (k := q) (by omega) 0 (by omega)
      rw [Nat.mul_one, Nat.add_zero] at hg0 hf0
      have HST : Hid ((wr.setCell ⟨g, q, none⟩ (.int .i64 us[k].new_)).ownsRow w.heap.size 3 1 (.slice (some ⟨g, 0, none⟩) 4 cg) 4 ((setR xs (us.take (k + 1))).flatMap ci)) := hst
      clear hq hr3 hr0 hst
      go_wp2_with fail
      go_still_tail 12, (by kernel_rfl)
      change wpList _ _ _ _ _ wr.drew
      go_wp2_with fail
      exact ⟨⟨k + 1, by omega, by go_num, HST.out, (HB.out.setCell hgb _).drew⟩, by simp [intOf]; omega⟩
    · have hkn : k = n2 := by omega
      subst hkn
      have hfa := HO.out
      rw [List.take_of_length_le (by rw [HU.out.1]; exact Nat.le_refl _)] at hfa
      have HFA := Lib.hid hfa
      clear hfa
      go_wp2_with fail
      go_ret
      exact ⟨_, HFA.out, HB.out, rfl⟩

end Go.Proofs.Ytgbkjfhmbchiiaa

namespace Go.Proofs.Ytgbkjfhmbchiiaa
set_option linter.unusedVariables false
set_option linter.unusedSimpArgs false
open Go.RowKit

theorem step_app {P : Program} {w : World} {ops : Array Oper} {o : Oper} {a : Act} {K : Act → World → Prop} {Q : Exit → Act → World → Prop} {E' : Prop} {s x : Operand} {t e : TypeId} {z : Value} {size bytes base n m c lo hi : Nat} {A : Option Addr} {v : Value} {cs news : List Value}
    (E : ElemT P t e z size bytes) (hown : w.ownsRow base e size v n cs) (hr : Rd w lo hi A news) (hl : news.length = m * size) (h1 : ∀ u ∈ news, u.oneCell' = true) (h63 : n + m ≤ maxLen) (hbytes : (n + m) * bytes ≤ 140737488355328) (hbase : base ≤ w.heap.size)
    (hgd : o.guard = none) (ho : o.op = .call { callee := .builtin .append, args := #[s, x], argTypes := #[t, t] }) (hs : a.eval s = v) (hx : a.eval x = .slice A m c)
    (h : ∀ v' w', w'.ownsRow base e size v' (n + m) (cs ++ news) → w.grownBy w' v.ownBlock → K (a.put o.dst v') w') :
    if Region.wanted o (yielded ops a.tmps) = true then Oper.wp P o a w K Q else E' := by
  have hw : Region.wanted o (yielded ops a.tmps) = true := by simp [Region.wanted, hgd]
  rw [if_pos hw]
  obtain ⟨v', w', hr, h2, h3⟩ := run_app (P := P) (ty := o.type) (c := c) E hown hr hl h1 h63 hbytes hbase
  unfold Oper.wp execOp
  simp only [ho, resolve, invoke, builtin, Sem.run_bind, Sem.run_pure, Result.andThen_ok, List.map_toArray, List.map_cons, List.map_nil, hs, hx, hr]
  exact h _ _ h2 h3

end Go.Proofs.Ytgbkjfhmbchiiaa
