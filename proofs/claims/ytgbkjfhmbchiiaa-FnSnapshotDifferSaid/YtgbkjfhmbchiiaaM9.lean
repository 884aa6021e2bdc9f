/-
  A map of the call's own with integer keys and elements of any kind: block b reads as the function C. Plain laws over any program: made, kept, asked, written, deleted.
  The walk of the program's Txn.ok: whether a transaction is valid: its votes go through a channel and are counted in a map. Condition: lengths fit an int64, the votes are ints.
  The walks of the reference's l1Has, l22Txn and CoordinatorValid: whether a number is in a row, whether transactions and coordinators are valid. Condition: lengths fit an int64.
  The walk of the reference's CoordinatorValid: whether a coordinator is valid. Condition: lengths fit an int64.
-/
import Derived.Test.YtgbkjfhmbchiiaaM1
import Derived.Maps.OwnSet
import Derived.Maps.Views
import Derived.Test.YtgbkjfhmbchiiaaM7
import Derived.Test.YtgbkjfhmbchiiaaM8
import Derived.Test.YtgbkjfhmbchiiaaM4
import Derived.BigQuiet
namespace Go.Proofs.Ytgbkjfhmbchiiaa
set_option linter.unusedVariables false
set_option linter.unusedSimpArgs false
open Go.RowKit

/-- an element of any kind is read as itself -/
def anyEl (v : Value) : Option (DataW Value × List MemPlace) := some (.held v, [])
/-- block b is a map of at most n entries that reads as C -/
def MapI (P : Program) (k : TypeId) (w : World) (b n : Nat) (C : Int → Option Value) : Prop :=
  ∃ D : DataW Value, w.ownsMap P k anyEl b n D ∧ ∀ i : Int, (Lit.int .i64 i).wf = true → Maps.has D (.int .i64 i) = (C i).isSome ∧ ∀ z : Value, D.atKey (.int .i64 i) (.held z) = .held ((C i).getD z)
section
variable {P : Program} {k e t : TypeId} {w w' : World} {b n : Nat} {C : Int → Option Value}
theorem MapI.made (w : World) (P : Program) (k : TypeId) : MapI P k (w.alloc (.map #[] 0)) w.heap.size 0 (fun _ => none) :=
  ⟨.map [], World.ownsMap_made w P k anyEl, fun _ _ => ⟨rfl, fun _ => rfl⟩⟩
theorem MapI.kept {row : Option Nat} (h : MapI P k w b n C) (hg : w.grownBy w' row) (hne : some b ≠ row) : MapI P k w' b n C := by
  obtain ⟨D, h1, h2⟩ := h
  exact ⟨D, h1.kept hg hne, h2⟩
theorem MapI.alloc (h : MapI P k w b n C) (o : Obj) : MapI P k (w.alloc o) b n C := h.kept (World.grownBy_alloc w o none) (by simp)
theorem MapI.drewN (h : MapI P k w b n C) (m : Nat) : MapI P k (w.drewN m) b n C := h
theorem MapI.lt (h : MapI P k w b n C) : b < w.heap.size := by obtain ⟨D, h1, _⟩ := h; exact h1.lt
theorem MapI.ask (h : MapI P k w b n C) (hk : P.underlying k = some (.int .i64)) (ht : P.underlying t = some (.map k e)) {z : Value} (hz : (zeroValue e).run P w = .ok z w) {i : Int} (hi : (Lit.int .i64 i).wf = true) :
    (Instr.lookup t (.map (some b)) (.int .i64 i) true).run P w = .ok (.tuple #[(C i).getD z, .bool (C i).isSome]) w := by
  obtain ⟨D, h1, h2⟩ := h
  obtain ⟨v, ps, hr, hv⟩ := h1.look_ok (Maps.int_keyed hk) ht hz (zd := .held z) (zp := []) rfl (Maps.keyOf_int_mk hk hi)
  obtain ⟨ha, hb⟩ := h2 i hi
  rw [hb z] at hv
  unfold anyEl at hv
  simp only [Option.some.injEq, Prod.mk.injEq, DataW.held.injEq] at hv
  rw [hr, ha, hv.1]
theorem MapI.get (h : MapI P k w b n C) (hk : P.underlying k = some (.int .i64)) (ht : P.underlying t = some (.map k e)) {z : Value} (hz : (zeroValue e).run P w = .ok z w) {i : Int} (hi : (Lit.int .i64 i).wf = true) :
    (Instr.lookup t (.map (some b)) (.int .i64 i) false).run P w = .ok ((C i).getD z) w := by
  obtain ⟨D, h1, h2⟩ := h
  obtain ⟨v, ps, hr, hv⟩ := h1.lookup (Maps.int_keyed hk) ht hz (zd := .held z) (zp := []) rfl (Maps.keyOf_int_mk hk hi)
  obtain ⟨ha, hb⟩ := h2 i hi
  rw [hb z] at hv
  unfold anyEl at hv
  simp only [Option.some.injEq, Prod.mk.injEq, DataW.held.injEq] at hv
  rw [hr, hv.1]
theorem MapI.set (h : MapI P k w b n C) (hk : P.underlying k = some (.int .i64)) (ht : P.underlying t = some (.map k e)) (hn : n < maxLen) {i : Int} (hi : (Lit.int .i64 i).wf = true) (v : Value) :
    ∃ w', (Instr.mapUpdate t (.map (some b)) (.int .i64 i) v).run P w = .ok () w' ∧ MapI P k w' b (n + 1) (fun j => if j = i then some v else C j) ∧ w.grownBy w' (some b) := by
  obtain ⟨D, h1, h2⟩ := h
  obtain ⟨w', hr, h3, h4⟩ := h1.update (Maps.int_keyed hk) ht hn (Maps.keyOf_int_mk hk hi) (val := v) (d := .held v) (ps := []) rfl
  refine ⟨w', hr, ⟨_, h3, fun j hj => ?_⟩, h4⟩
  have hkl : WideAt.IsKeyLit (.int .i64 i) := by simp [WideAt.IsKeyLit]
  dsimp only
  by_cases e : j = i
  · subst e
    rw [if_pos rfl]
    exact ⟨Maps.has_put_same h1.isMap hkl _, fun z => Maps.atKey_put_same h1.isMap hkl _ _⟩
  · rw [if_neg e]
    have hne : (Lit.int .i64 j) ≠ .int .i64 i := by intro h; injection h with _ h; exact e h
    rw [Maps.has_put_other hne]
    exact ⟨(h2 j hj).1, fun z => by rw [Maps.atKey_put_other hne]; exact (h2 j hj).2 z⟩
theorem MapI.del (h : MapI P k w b n C) (hk : P.underlying k = some (.int .i64)) (ht : P.underlying t = some (.map k e)) {i : Int} (hi : (Lit.int .i64 i).wf = true) (ty : TypeId) :
    ∃ w', (Builtin.delete_ #[t, k] ty #[.map (some b), .int .i64 i]).run P w = .ok (.tuple #[]) w' ∧ MapI P k w' b n (fun j => if j = i then none else C j) ∧ w.grownBy w' (some b) := by
  obtain ⟨D, h1, h2⟩ := h
  obtain ⟨w', hr, h3, h4⟩ := h1.drop (Maps.int_keyed hk) ht (Maps.keyOf_int_mk hk hi) ty
  refine ⟨w', hr, ⟨_, h3, fun j hj => ?_⟩, h4.grown⟩
  dsimp only
  by_cases e : j = i
  · subst e
    rw [if_pos rfl]
    exact ⟨Maps.has_del_same, fun z => Maps.atKey_del_same _⟩
  · rw [if_neg e]
    have hne : (Lit.int .i64 j) ≠ .int .i64 i := by intro h; injection h with _ h; exact e h
    rw [Maps.has_del_other hne]
    exact ⟨(h2 j hj).1, fun z => by rw [Maps.atKey_del_other hne]; exact (h2 j hj).2 z⟩
end

theorem wpList_setI {P : Program} (w : World) {ops : Array Oper} {rest : List Oper} {o : Oper} {a : Act} {Q : Exit → Act → World → Prop}
    (hg : o.guard = none) (m x v : Operand) (t : TypeId) (hop : o.op = Op.mapUpdate t m x v)
    (k e : TypeId) (hk : P.underlying k = some (.int .i64)) (ht : P.underlying t = some (.map k e)) (b n : Nat) (C : Int → Option Value)
    (hm : a.eval m = .map (some b)) (hown : MapI P k w b n C) (hn : n < maxLen) (i : Int) (val : Value) (hi : (Lit.int .i64 i).wf = true) (hx : a.eval x = .int .i64 i) (hv : a.eval v = val)
    (hK : ∀ w', MapI P k w' b (n + 1) (fun j => if j = i then some val else C j) → w.grownBy w' (some b) → wpList P ops Q rest (a.put o.dst undef) w') :
    wpList P ops Q (o :: rest) a w := by
  refine wpList_plain hg fun K' hK' => ?_
  obtain ⟨w', hrun, r1, r2⟩ := hown.set hk ht hn hi val
  unfold Oper.wp
  simp [execOp, hop, hm, hx, hv, hrun, Result.andThen]
  exact hK' _ _ (hK w' r1 r2)

end Go.Proofs.Ytgbkjfhmbchiiaa

namespace Go.Proofs.Ytgbkjfhmbchiiaa
set_option linter.unusedVariables false
set_option linter.unusedSimpArgs false
open Go.RowKit Go.Conc

theorem Try.bytesInt : ∃ i, Try.prog.info? 3 = some i ∧ i.bytes = 8 := by
  have h : (Try.prog.info? 3).map (·.bytes) = some 8 := by kernel_rfl
  obtain ⟨i, hi, hb⟩ := Option.map_eq_some_iff.1 h
  exact ⟨i, hi, hb⟩
theorem hlt_of {w : World} {g : Nat} {o : Obj} (h : w.heap[g]? = some o) : g < w.heap.size := by
  rcases Nat.lt_or_ge g w.heap.size with hlt | hge
  · exact hlt
  · rw [Array.getElem?_eq_none hge] at h; cases h
theorem mk_chan (w : World) (n : Nat) (hn : n ≤ 3) : (Instr.makeChan 94 (.int .i64 (n : Int))).run Try.prog w = .ok (.chan (some w.heap.size)) (w.alloc (.chan n #[] false 0 0 false)) := by
  obtain ⟨i, hi, hb⟩ := Try.bytesInt
  simpa using run_makeChan (P := Try.prog) (w := w) Try.underlying94 hi .i64 n (by omega) (by rw [hb]; omega)

/-- the first k votes lie in the channel's buffer -/
def bufTo (votes : List Int) (k : Nat) : Array Value := ((votes.take k).map (Value.int .i64)).toArray
theorem bufTo_size {votes : List Int} {k : Nat} (h : k ≤ votes.length) : (bufTo votes k).size = k := by unfold bufTo; simp; omega
theorem bufTo_push {votes : List Int} {k : Nat} (h : k < votes.length) : (bufTo votes k).push (.int .i64 votes[k]) = bufTo votes (k + 1) := by
  unfold bufTo
  rw [List.take_succ_eq_append_getElem h, List.map_append, List.push_toArray]
  rfl

/-- the votes from the j-th on lie in the channel's buffer -/
def bufFrom (votes : List Int) (j : Nat) : Array Value := ((votes.drop j).map (Value.int .i64)).toArray
theorem bufFrom_size (votes : List Int) (j : Nat) : (bufFrom votes j).size = votes.length - j := by unfold bufFrom; simp
theorem bufTo_all (votes : List Int) : bufTo votes votes.length = bufFrom votes 0 := by unfold bufTo bufFrom; simp
theorem bufFrom_get {votes : List Int} {j : Nat} (h : j < votes.length) : (bufFrom votes j).getD 0 undef = .int .i64 votes[j] := by
  unfold bufFrom
  rw [List.drop_eq_getElem_cons h]
  rfl
theorem bufFrom_next {votes : List Int} {j : Nat} (h : j < votes.length) : (bufFrom votes j).extract 1 (bufFrom votes j).size = bufFrom votes (j + 1) := by
  rw [bufFrom_size]
  unfold bufFrom
  rw [List.drop_eq_getElem_cons h]
  apply Array.ext'
  simp
  rw [List.take_of_length_le (by simp; omega)]
theorem bufFrom_nil {votes : List Int} {j : Nat} (h : votes.length ≤ j) : bufFrom votes j = #[] := by
  unfold bufFrom
  rw [List.drop_eq_nil_of_le h]
  rfl
section
variable {votes : List Int} {dec : Int} {j y nn mm : Nat}
theorem txe1 (hl : votes.length = j) (hs : y + nn + mm ≤ votes.length ∧ (y + nn + mm = votes.length ↔ votes.all voteB = true)) (h : ((y : Int) + nn + mm != j) = true) : false = (votes.all voteB && decB dec votes) := by
  have : votes.all voteB = false := by
    rcases e : votes.all voteB with _ | _
    · rfl
    · have := hs.2.2 e; simp at h; omega
  rw [this]; rfl
theorem tx_all (hl : votes.length = j) (hs : y + nn + mm ≤ votes.length ∧ (y + nn + mm = votes.length ↔ votes.all voteB = true)) (h : ((y : Int) + nn + mm != j) = false) : votes.all voteB = true := hs.2.1 (by simp at h; omega)
theorem txe2 (hl : votes.length = j) (hy : cnt1 1 votes = y) (hs : y + nn + mm ≤ votes.length ∧ (y + nn + mm = votes.length ↔ votes.all voteB = true)) (h : ((y : Int) + nn + mm != j) = false) (hd : (dec == 2) = true) : ((y : Int) == (j : Int)) = (votes.all voteB && decB dec votes) := by
  have hd : dec = 2 := by simpa using hd
  rw [tx_all hl hs h]; unfold decB; rw [if_pos hd, hy, hl, Bool.true_and, Bool.eq_iff_iff]; simp; omega
theorem txe3 (hl : votes.length = j) (hy : cnt1 1 votes = y) (hs : y + nn + mm ≤ votes.length ∧ (y + nn + mm = votes.length ↔ votes.all voteB = true)) (h : ((y : Int) + nn + mm != j) = false) (hd : (dec == 3) = true) : decide (y < j) = (votes.all voteB && decB dec votes) := by
  have hd : dec = 3 := by simpa using hd
  rw [tx_all hl hs h]; unfold decB; rw [if_neg (by omega), if_pos hd, hy, hl, Bool.true_and]
theorem txe4 (hl : votes.length = j) (hy : cnt1 1 votes = y) (hn : cnt1 (-1) votes = nn) (hs : y + nn + mm ≤ votes.length ∧ (y + nn + mm = votes.length ↔ votes.all voteB = true)) (h : ((y : Int) + nn + mm != j) = false) (hd : (dec == 0) = true) (h0 : nn = 0) : decide (0 < mm) = (votes.all voteB && decB dec votes) := by
  have hd : dec = 0 := by simpa using hd
  have h : y + nn + mm = j := by simp at h; omega
  have ha := hs.2.1 (by omega)
  rw [ha]; unfold decB; rw [if_neg (by omega), if_neg (by omega), if_pos hd, hy, hn, hl, Bool.true_and, h0, decide_eq_true (rfl : (0 : Nat) = 0), Bool.true_and, Bool.eq_iff_iff]; simp; omega
theorem txe5 (hn : cnt1 (-1) votes = nn) (hd : (dec == 0) = true) (h0 : ¬ nn = 0) : false = (votes.all voteB && decB dec votes) := by
  have hd : dec = 0 := by simpa using hd
  unfold decB; rw [if_neg (by omega), if_neg (by omega), if_pos hd, hn, decide_eq_false h0]; simp
theorem txe6 (h2 : (dec == 2) = false) (h3 : (dec == 3) = false) (h0 : (dec == 0) = false) : false = (votes.all voteB && decB dec votes) := by
  have h2 : ¬ dec = 2 := by simpa using h2
  have h3 : ¬ dec = 3 := by simpa using h3
  have h0 : ¬ dec = 0 := by simpa using h0
  unfold decB; rw [if_neg h2, if_neg h3, if_neg h0]; simp
end
def bufLen (w : World) (c : Nat) : Nat := match w.heap[c]? with | some (.chan _ b _ _ _ _) => b.size | _ => 0
theorem bufLen_of {w : World} {c k : Nat} {b : Array Value} {cl : Bool} {s r : Nat} {tm : Bool} (h : w.heap[c]? = some (.chan k b cl s r tm)) : bufLen w c = b.size := by unfold bufLen; rw [h]
theorem cnt1_snoc {votes : List Int} {j : Nat} (h : j < votes.length) (i : Int) : cnt1 i (votes.take (j + 1)) = (if i = votes[j] then cnt1 i (votes.take j) + 1 else cnt1 i (votes.take j)) := by
  unfold cnt1
  rw [List.take_succ_eq_append_getElem h, List.countP_append, List.countP_singleton]
  by_cases e : i = votes[j]
  · rw [if_pos e, if_pos (by simp [e])]
  · rw [if_neg e, if_neg (by simp; exact fun x => e x.symm)]; omega
theorem got_true (v : Value) (o : Bool) : got true v o = .tuple #[v, .bool o] := rfl
theorem zeroI (w : World) : (zeroValue 3).run Try.prog w = .ok (.int .i64 0) w := by kernel_rfl

set_option maxHeartbeats 3200000 in
set_option maxRecDepth 100000 in
theorem txnOk_any (parts : List PartD) (votes : List Int) (dec : Int) (A0 : Option Addr) (n0 c0 : Nat) (A1 : Option Addr) (n1 c1 : Nat) (w : World) (lo hi : Nat) (hh : hi ≤ w.heap.size) (hr0 : D.rd w lo hi (dParts parts) (.slice A0 n0 c0)) (hr1 : D.rd w lo hi (intsD votes) (.slice A1 n1 c1)) (hwf : ∀ v ∈ votes, (Lit.int .i64 v).wf = true) :
    Calls Try.prog 46 #[.agg #[.slice A0 n0 c0, .slice A1 n1 c1, .int .i64 dec]] w fun e w' => e = .returned (.bool (txnB ⟨parts, votes, dec⟩)) ∧ Below w.heap.size w w' := by
  have HB0 : Hid (Below w.heap.size w (w.alloc (.cells #[.slice A0 n0 c0, .slice A1 n1 c1, .int .i64 dec] 46))) := (Below.refl _ _).alloc (Nat.le_refl _) _
  have HP := Lib.hid (hr0.alloc hh (.cells #[.slice A0 n0 c0, .slice A1 n1 c1, .int .i64 dec] 46))
  have HV := Lib.hid hr1
  have HN0 := Lib.hid hr0.len.1
  have HN1 := Lib.hid hr1.ints.1
  have HWF := Lib.hid hwf
  clear hr0 hr1 hwf
  go_enter Try.func46, Try.ntmps46
  go_wp2_with fail
  refine (partsOk_any parts A0 n0 c0 _ lo hi (by simp; omega) HP.out).mono ?_
  rintro e w1 ⟨rfl, hb1⟩
  have HX1 : Hid (w1.heap[w.heap.size]? = some (.cells #[.slice A0 n0 c0, .slice A1 n1 c1, .int .i64 dec] 46 (0, 0))) := Lib.hid ((hb1.block _ (by simp)).trans (heap_alloc_new w _))
  have HB1 := Lib.hid (bel_tr HB0.out (Nat.le_refl _) hb1)
  have hz1 : w.heap.size < w1.heap.size := by have := hb1.size; simp at this; omega
  have b0 := cell_of_row w1 w.heap.size 0 _ _ _ HX1.out
  have b1 := cell_of_row w1 w.heap.size 1 _ _ _ HX1.out
  have b2 := cell_of_row w1 w.heap.size 2 _ _ _ HX1.out
  clear hb1
  rcases hp : partsB parts with _ | _
  · have hno : Hid (txnB ⟨parts, votes, dec⟩ = false) := by show _ = _; unfold txnB; rw [hp]; rfl
    go_wp2_with fail
    go_ret
    exact ⟨ret_bool hno.out.symm, HB1.out⟩
  by_cases hl : n1 = n0
  · subst hl
    have hl3 : n1 ≤ 3 := by rw [HN0.out]; exact partsB_len hp
    have hl1 : 0 < n1 := by rw [HN0.out]; exact (partsB_and hp).2
    have hmc := fun W : World => mk_chan W n1 hl3
    have HPB := Lib.hid hp
    clear hp
    have HB2 : Hid (Below w.heap.size w (w1.alloc (.chan n1 #[] false 0 0 false))) := Lib.hid (HB1.out.alloc (by omega) _)
    have HX2 : Hid ((w1.alloc (.chan n1 #[] false 0 0 false)).heap[w.heap.size]? = some (.cells #[.slice A0 n1 c0, .slice A1 n1 c1, .int .i64 dec] 46 (0, 0))) := Lib.hid ((Below.heap_alloc w1 _ _ hz1).trans HX1.out)
    have HC2 : Hid ((w1.alloc (.chan n1 #[] false 0 0 false)).heap[w1.heap.size]? = some (.chan n1 #[] false 0 0 false)) := Lib.hid (heap_alloc_new w1 _)
    go_wp2_with fail
    go_loopw [31] (fun i wr => ∃ k : Nat, k ≤ n1 ∧ i = .int .i64 k ∧ Hid (wr.heap[w1.heap.size]? = some (.chan n1 (bufTo votes k) false k 0 false)) ∧ Hid (wr.heap[w.heap.size]? = some (.cells #[.slice A0 n1 c0, .slice A1 n1 c1, .int .i64 dec] 46 (0, 0))) ∧ Below w.heap.size w wr) (fun i _ => n1 - (intOf i).toNat)
    case atStart => exact ⟨0, Nat.zero_le _, rfl, HC2.out, HX2.out, HB2.out⟩
    case round =>
      obtain ⟨k, hk, rfl, HC, HX, hb⟩ := hrel
      have HB := Lib.hid hb
      clear hb HC2 HX2 HB2
      by_cases hlt : k < n1
      · obtain ⟨b, o, hlv, rfl, _, _, hc⟩ := (HV.out.below HB.out hh).ints.int hlt
        go_upto_region 7 with (fail)
        refine WpO.region ?_
        simp only [List.size_toArray, List.length_cons, List.length_nil, Nat.reduceAdd, Nat.zero_add, List.range, List.range.loop]
        refine WpO.value (v := .chan (some w1.heap.size)) rfl rfl rfl ?_
        refine WpO.value (v := .int .i64 votes[k]) rfl rfl rfl ?_
        refine WpO.send (v := .int .i64 votes[k]) (z := .tuple #[]) rfl rfl (by simp [execOp, scase, Act.eval, Act.put]) HC.out (by rw [bufTo_size (by omega)]; exact hlt) ?_
        refine WpO.nil ?_
        rw [bufTo_push hlv]
        have HC3 : Hid ((wr.setChan w1.heap.size n1 (bufTo votes (k + 1)) false (k + 1) 0 false).heap[w1.heap.size]? = some (.chan n1 (bufTo votes (k + 1)) false (k + 1) 0 false)) := chan_block (hlt_of HC.out)
        have HX3 : Hid ((wr.setChan w1.heap.size n1 (bufTo votes (k + 1)) false (k + 1) 0 false).heap[w.heap.size]? = some (.cells #[.slice A0 n1 c0, .slice (some ⟨b, o, none⟩) n1 c1, .int .i64 dec] 46 (0, 0))) := Lib.hid (((chan_grown wr _ _ _ _ _ _ _).block _ (hlt_of HX.out) (fun e => by injection e with e; omega)).trans HX.out)
        have HB3 : Hid (Below w.heap.size w (wr.setChan w1.heap.size n1 (bufTo votes (k + 1)) false (k + 1) 0 false)) := below_setChan HB.out (by omega) _ _ _ _ _ _
        go_wp2_with fail
        exact ⟨⟨k + 1, by omega, by go_num, HC3, HX3, HB3⟩, by simp [intOf]; omega⟩
      · have hkn : k = n1 := by omega
        subst hkn
        obtain ⟨w4, hcl, hc4, hg4⟩ : ∃ w4 : World, (∀ ats ty, (Builtin.close_ ats ty #[.chan (some w1.heap.size)]).run Try.prog wr = .ok (.tuple #[]) w4) ∧ w4.heap[w1.heap.size]? = some (.chan k (bufTo votes k) true k 0 false) ∧ wr.grownBy w4 (some w1.heap.size) :=
          ⟨wr.setChan w1.heap.size k (bufTo votes k) true k 0 false, fun ats ty => run_close_open (P := Try.prog) (w := wr) ats ty HC.out, chan_block (hlt_of HC.out), chan_grown wr _ _ _ _ _ _ _⟩
        have hkv : bufTo votes k = bufFrom votes 0 := by have := HN1.out; subst this; exact bufTo_all votes
        rw [hkv] at hc4
        have hx4 := (hg4.block _ (hlt_of HX.out) (fun e => by injection e with e; omega)).trans HX.out
        have hb4 := HB.out.grown hg4 (by have := HB.out.size; omega) (fun q hq => by injection hq with hq; omega)
        have hz4 : w.heap.size ≤ w4.heap.size := hb4.size
        have HZ4 : Hid (w1.heap.size < w4.heap.size) := Lib.hid (hlt_of hc4)
        have HM5 := Lib.hid (MapI.made w4 Try.prog 3)
        have HC5 : Hid ((w4.alloc (.map #[] 0)).heap[w1.heap.size]? = some (.chan k (bufFrom votes 0) true k 0 false)) := Lib.hid ((Below.heap_alloc w4 _ _ HZ4.out).trans hc4)
        have HX5 : Hid ((w4.alloc (.map #[] 0)).heap[w.heap.size]? = some (.cells #[.slice A0 k c0, .slice A1 k c1, .int .i64 dec] 46 (0, 0))) := Lib.hid ((Below.heap_alloc w4 _ _ (by have := HZ4.out; omega)).trans hx4)
        have HB5 : Hid (Below w.heap.size w (w4.alloc (.map #[] 0))) := Lib.hid (hb4.alloc (by omega) _)
        have hmm := @run_makeMap Try.prog
        clear hc4 hg4 hx4 hb4 HC HX HB hkv
        go_wp2_with fail
        clear hcl hmm
        go_loopw [] (fun ws => ∃ (j n : Nat) (C : Int → Option Value), j ≤ k ∧ n ≤ j ∧ Hid (ws.heap[w1.heap.size]? = some (.chan k (bufFrom votes j) true k j false)) ∧ Hid (MapI Try.prog 3 ws w4.heap.size n C) ∧ Hid (∀ i : Int, (C i).getD (.int .i64 0) = .int .i64 (cnt1 i (votes.take j))) ∧ Hid (ws.heap[w.heap.size]? = some (.cells #[.slice A0 k c0, .slice A1 k c1, .int .i64 dec] 46 (0, 0))) ∧ Below w.heap.size w ws) (fun ws => bufLen ws w1.heap.size)
        case atStart => exact ⟨0, 0, fun _ => none, Nat.zero_le _, Nat.le_refl _, HC5.out, HM5.out, Lib.hid (fun i => rfl), HX5.out, HB5.out⟩
        case round =>
          obtain ⟨j, n, C, hj, hn, HC6, HM6, HK6, HX6, hb6⟩ := hrel
          have HB6 := Lib.hid hb6
          clear hb6 HC5 HM5 HX5 HB5
          by_cases hjk : j < k
          · have hjv : j < votes.length := by have := HN1.out; omega
            go_upto_region 12 with (fail)
            refine WpO.region ?_
            simp only [List.size_toArray, List.length_cons, List.length_nil, Nat.reduceAdd, Nat.zero_add, List.range, List.range.loop]
            refine WpO.recv (z := .int .i64 0) true rfl rfl (by simp [execOp, rcase, Act.eval, Act.put, Try.underlying94, zeroI]) HC6.out (by rw [bufFrom_size]; omega) ?_
            rw [bufFrom_get hjv, bufFrom_next hjv, got_true]
            refine WpO.value (v := .bool true) rfl rfl rfl ?_
            refine WpO.nil ?_
            have hg7 := chan_grown wr w1.heap.size k (bufFrom votes (j + 1)) true k (j + 1) false
            have hc7 : (wr.setChan w1.heap.size k (bufFrom votes (j + 1)) true k (j + 1) false).heap[w1.heap.size]? = some (.chan k (bufFrom votes (j + 1)) true k (j + 1) false) := chan_block (hlt_of HC6.out)
            generalize wr.setChan w1.heap.size k (bufFrom votes (j + 1)) true k (j + 1) false = w7 at hg7 hc7 ⊢
            have hx7 := (hg7.block _ (hlt_of HX6.out) (fun e => by injection e with e; omega)).trans HX6.out
            have HL6 := Lib.hid (bufLen_of HC6.out)
            have hb7 := HB6.out.grown hg7 (by have := HB6.out.size; omega) (fun q hq => by injection hq with hq; omega)
            have hm7 := HM6.out.kept hg7 (fun e => by injection e with e; have := HZ4.out; omega)
            have hwv : (Lit.int .i64 votes[j]).wf = true := HWF.out _ (List.getElem_mem hjv)
            have hlk := hm7.get (e := 3) (t := 95) Try.underlying3 Try.underlying95 (zeroI w7) hwv
            rw [HK6.out] at hlk
            obtain ⟨w8, hup, hm8, hg8⟩ := hm7.set (e := 3) (t := 95) Try.underlying3 Try.underlying95 (by unfold maxLen; omega) hwv (.int .i64 ((cnt1 votes[j] (votes.take j) : Nat) + 1 : Int))
            have HX7 := Lib.hid hx7
            have HB7 := Lib.hid hb7
            have HM7 := Lib.hid hm7
            have HC7 := Lib.hid hc7
            have HZ7 := Lib.hid hwv
            have hcl : cnt1 votes[j] (votes.take j) ≤ j := by unfold cnt1; exact Nat.le_trans List.countP_le_length (by simp; omega)
            clear hx7 hb7 hm7 hc7 hg7 hwv HX6 HB6 HM6 HC6
            have HC8 : Hid (w8.heap[w1.heap.size]? = some (.chan k (bufFrom votes (j + 1)) true k (j + 1) false)) := Lib.hid ((hg8.block _ (hlt_of HC7.out) (fun e => by injection e with e; have := HZ4.out; omega)).trans HC7.out)
            have HX8 : Hid (w8.heap[w.heap.size]? = some (.cells #[.slice A0 k c0, .slice A1 k c1, .int .i64 dec] 46 (0, 0))) := Lib.hid ((hg8.block _ (hlt_of HX7.out) (fun e => by injection e with e; have := HZ4.out; omega)).trans HX7.out)
            have HB8 : Hid (Below w.heap.size w w8) := HB7.out.grown hg8 HB7.out.size (fun q hq => by injection hq with hq; have := HZ4.out; omega)
            have HM8 := Lib.hid hm8
            have HL8 :  Hid (bufLen w8 w1.heap.size < bufLen wr w1.heap.size) := by
              show _ < _
              rw [bufLen_of HC8.out, HL6.out, bufFrom_size, bufFrom_size]; omega
            have HK8 : Hid (∀ i : Int, ((fun x => if x = votes[j] then some (Value.int .i64 ((cnt1 votes[j] (votes.take j) : Nat) + 1 : Int)) else C x) i).getD (.int .i64 0) = .int .i64 (cnt1 i (votes.take (j + 1)))) := Lib.hid fun i => by
              rw [cnt1_snoc hjv]
              by_cases e : i = votes[j]
              · simp only [if_pos e, e]; rfl
              · simp only [if_neg e]; exact HK6.out i
            clear hm8 hg8
            go_wp2_with fail
            exact ⟨⟨j + 1, n + 1, _, by omega, by omega, HC8, HM8, HK8, HX8, HB8⟩, HL8.out⟩
          · have hjn : j = k := by omega
            subst hjn
            have hkl : votes.take j = votes := List.take_of_length_le (by have := HN1.out; omega)
            rw [hkl] at HK6
            have hget : ∀ i : Int, (Lit.int .i64 i).wf = true → ∀ m, (Instr.lookup 95 (.map (some w4.heap.size)) (.int .i64 i) false).run Try.prog (wr.drewN m) = .ok (.int .i64 (cnt1 i votes)) (wr.drewN m) := fun i hi m => by
              rw [← HK6.out]
              exact (HM6.out.drewN m).get (e := 3) (t := 95) Try.underlying3 Try.underlying95 (zeroI _) hi
            have q1 := hget 1 (by decide)
            have q2 := hget (-1) (by decide)
            have q3 := hget 0 (by decide)
            have b0 := cell_of_row wr w.heap.size 0 _ _ _ HX6.out
            have b1 := cell_of_row wr w.heap.size 1 _ _ _ HX6.out
            have b2 := cell_of_row wr w.heap.size 2 _ _ _ HX6.out
            have hsum := cnt_sum votes
            have hlen := HN1.out
            have HTX : Hid (txnB ⟨parts, votes, dec⟩ = (votes.all voteB && decB dec votes)) := by
              show _ = _
              unfold txnB
              have e1 : partsB parts = true := HPB.out
              have e2 : decide (votes.length = parts.length) = true := decide_eq_true (by rw [hlen]; exact HN0.out)
              show (partsB parts && decide (votes.length = parts.length) && votes.all voteB && decB dec votes) = _
              rw [e1, e2]; simp
            clear hget
            go_upto_region 12 with (fail)
            refine WpO.region ?_
            simp only [List.size_toArray, List.length_cons, List.length_nil, Nat.reduceAdd, Nat.zero_add, List.range, List.range.loop]
            refine WpO.shut (c := w1.heap.size) (z := .int .i64 0) true rfl rfl (by simp [execOp, rcase, Act.eval, Act.put, Try.underlying94, zeroI]) (by rw [HC6.out, bufFrom_nil (by omega)]) ?_
            rw [got_true]
            refine WpO.value (v := .bool false) rfl rfl rfl ?_
            refine WpO.nil ?_
            go_wp2_with fail
            generalize hy : cnt1 1 votes = y at q1 hsum
            generalize hnn : cnt1 (-1) votes = nn at q2 hsum
            generalize hz : cnt1 0 votes = mm at q3 hsum
            go_simp
            refine wp_region_quiet_lit (by kernel_rfl) (by kernel_rfl) ?_
            repeat (go_big_quiet_step (fail))
            refine wpQuiet_nil ?_
            intro _ hw'; obtain ⟨nq, hw''⟩ := hw'; subst hw''
            go_wp2_with fail
            all_goals go_ret
            all_goals (clear b0 b1 b2 q1 q2 q3; refine ⟨ret_bool ?_, below_drewN HB6.out _⟩)
            all_goals rw [HTX.out]
            · exact txe1 hlen hsum ‹(_ != _) = true›
            · exact txe2 hlen hy hsum ‹(_ != _) = false› ‹(dec == 2) = true›
            · exact txe3 hlen hy hsum ‹(_ != _) = false› ‹(dec == 3) = true›
            · exact txe4 hlen hy hnn hsum ‹(_ != _) = false› ‹(dec == 0) = true› ‹nn = 0›
            · exact txe5 hnn ‹(dec == 0) = true› ‹¬nn = 0›
            · exact txe6 ‹(dec == 2) = false› ‹(dec == 3) = false› ‹(dec == 0) = false›
  · have hno : Hid (txnB ⟨parts, votes, dec⟩ = false) := by
      show _ = _
      unfold txnB
      have : decide (votes.length = parts.length) = false := decide_eq_false (by have h1 := HN0.out; have h2 := HN1.out; omega)
      show (_ && decide (votes.length = parts.length) && _ && _) = false
      rw [this]; simp
    have hq : (!((n1 : Int) == (n0 : Int))) = true := by simp; omega
    go_wp2_with fail
    go_ret
    exact ⟨ret_bool hno.out.symm, HB1.out⟩

end Go.Proofs.Ytgbkjfhmbchiiaa

namespace Go.Proofs.Ytgbkjfhmbchiiaa
set_option linter.unusedVariables false
set_option linter.unusedSimpArgs false
open Go.RowKit

set_option maxHeartbeats 400000 in
theorem l1Has_any (A : Option Addr) (n c : Nat) (xs : List Int) (x : Int) (w : World) (lo hi : Nat) (hn : n ≤ 9223372036854775807) (h : Ints w lo hi A n xs) :
    Calls Try.prog 30 #[.slice A n c, .int .i64 x] w fun e w' => e = .returned (.bool (hasB x xs)) ∧ w = w' := by
  have HI := Lib.hid h
  clear h
  go_enter Try.func30, Try.ntmps30
  go_wp2_with fail
  go_loop [5] (fun i => ∃ k : Nat, k ≤ n ∧ i = .int .i64 k ∧ Hid (x ∉ xs.take k)) (fun i => n - (intOf i).toNat)
  case atStart => exact ⟨0, Nat.zero_le _, rfl, by show _ ∉ _; simp⟩
  case round =>
    obtain ⟨k, hk, rfl, HX⟩ := hrel
    by_cases hlt : k < n
    · obtain ⟨b, o, hl, rfl, _, _, hc⟩ := HI.out.int hlt
      by_cases he : xs[k] = x
      · have HY := Lib.hid (hasB_at hl he)
        rw [he] at hc
        clear he
        go_wp2_with fail
        go_ret
        exact ⟨ret_bool HY.out.symm, rfl⟩
      · have hd : (xs[k] == x) = false := by simpa using he
        have HY := Lib.hid (take_mem_succ hl HX.out he)
        clear he
        go_wp2_with fail
        go_round
        case rel => exact ⟨k + 1, by omega, by go_num, HY.out⟩
        case measure => simp [intOf]; omega
    · have hkn : k = n := by omega
      subst hkn
      have HY := Lib.hid (hasB_none HI.out.1 HX.out)
      go_wp2_with fail
      go_ret
      exact ⟨ret_bool HY.out.symm, rfl⟩

theorem cnt1_eq {votes : List Int} {k : Nat} (h : k < votes.length) {v : Int} (e : votes[k] = v) : cnt1 v (votes.take (k + 1)) = cnt1 v (votes.take k) + 1 := by rw [cnt1_snoc h, if_pos e.symm]
theorem cnt1_ne {votes : List Int} {k : Nat} (h : k < votes.length) {v : Int} (e : ¬ votes[k] = v) : cnt1 v (votes.take (k + 1)) = cnt1 v (votes.take k) := by rw [cnt1_snoc h, if_neg (fun x => e x.symm)]
theorem all_snoc {votes : List Int} {k : Nat} (h : k < votes.length) (ha : (votes.take k).all voteB = true) (hv : voteB votes[k] = true) : (votes.take (k + 1)).all voteB = true := by
  rw [List.take_succ_eq_append_getElem h, List.all_append, ha]; simp [hv]
theorem all_bad {votes : List Int} {k : Nat} (h : k < votes.length) (hv : voteB votes[k] = false) : votes.all voteB = false := by
  rw [← Bool.not_eq_true, List.all_eq_true]
  intro hh
  rw [hh _ (List.getElem_mem h)] at hv; cases hv
theorem txn_novote {parts : List PartD} {votes : List Int} {dec : Int} (h : votes.all voteB = false) : txnB ⟨parts, votes, dec⟩ = false := by
  unfold txnB; show (_ && votes.all voteB && _) = false; rw [h]; simp
theorem txn_nopart {parts : List PartD} {votes : List Int} {dec : Int} (h : partsB parts = false) : txnB ⟨parts, votes, dec⟩ = false := by unfold txnB; rw [h]; rfl
theorem txn_nolen {parts : List PartD} {votes : List Int} {dec : Int} (h : ¬ votes.length = parts.length) : txnB ⟨parts, votes, dec⟩ = false := by
  unfold txnB; show (_ && decide (votes.length = parts.length) && _ && _) = false; rw [decide_eq_false h]; simp
theorem txn_dec {parts : List PartD} {votes : List Int} {dec : Int} (h1 : partsB parts = true) (h2 : votes.length = parts.length) (h3 : votes.all voteB = true) : txnB ⟨parts, votes, dec⟩ = decB dec votes := by
  unfold txnB; show (partsB parts && decide (votes.length = parts.length) && votes.all voteB && decB dec votes) = _; rw [h1, decide_eq_true h2, h3]; simp

set_option maxHeartbeats 3200000 in
set_option maxRecDepth 100000 in
theorem l22Txn_any (parts : List PartD) (votes : List Int) (dec : Int) (A0 : Option Addr) (n0 c0 : Nat) (A1 : Option Addr) (n1 c1 : Nat) (w : World) (lo hi : Nat) (hh : hi ≤ w.heap.size) (hr0 : D.rd w lo hi (dParts parts) (.slice A0 n0 c0)) (hr1 : D.rd w lo hi (intsD votes) (.slice A1 n1 c1)) :
    Calls Try.prog 29 #[.agg #[.slice A0 n0 c0, .slice A1 n1 c1, .int .i64 dec]] w fun e w' => e = .returned (.bool (txnB ⟨parts, votes, dec⟩)) ∧ Below w.heap.size w w' := by
  have HB0 : Hid (Below w.heap.size w (w.alloc (.cells #[.slice A0 n0 c0, .slice A1 n1 c1, .int .i64 dec] 46))) := (Below.refl _ _).alloc (Nat.le_refl _) _
  have HX0 : Hid ((w.alloc (.cells #[.slice A0 n0 c0, .slice A1 n1 c1, .int .i64 dec] 46)).heap[w.heap.size]? = some (.cells #[.slice A0 n0 c0, .slice A1 n1 c1, .int .i64 dec] 46 (0, 0))) := Lib.hid (heap_alloc_new w _)
  have HP := Lib.hid (hr0.alloc hh (.cells #[.slice A0 n0 c0, .slice A1 n1 c1, .int .i64 dec] 46))
  have HV : Hid (Ints (w.alloc (.cells #[.slice A0 n0 c0, .slice A1 n1 c1, .int .i64 dec] 46)) lo hi A1 n1 votes) := hr1.ints.alloc hh _
  have HN0 := Lib.hid hr0.len.1
  have HN1 := Lib.hid hr1.len.1
  have hn63 : n1 ≤ 9223372036854775807 := by have := hr1.len; omega
  clear hr0 hr1
  go_enter Try.func29, Try.ntmps29
  go_wp2_with fail
  go_loop [3, 4, 5] (fun y q i => ∃ k a b : Nat, k ≤ n1 ∧ a ≤ k ∧ b ≤ k ∧ i = .int .i64 k ∧ y = .int .i64 a ∧ q = .int .i64 b ∧ Hid (a = cnt1 1 (votes.take k)) ∧ Hid (b = cnt1 (-1) (votes.take k)) ∧ Hid ((votes.take k).all voteB = true)) (fun _ _ i => n1 - (intOf i).toNat)
  case atStart => exact ⟨0, 0, 0, Nat.zero_le _, Nat.zero_le _, Nat.zero_le _, rfl, rfl, rfl, rfl, rfl, rfl⟩
  case round =>
    obtain ⟨k, a, b, hk, ha, hb, rfl, rfl, rfl, HA, HBB, HT⟩ := hrel
    by_cases hlt : k < n1
    · obtain ⟨bb, o, hl, rfl, _, _, hc⟩ := HV.out.int hlt
      rcases hv : voteB votes[k] with _ | _
      · have hno := Lib.hid (txn_novote (parts := parts) (dec := dec) (all_bad hl hv))
        have hv' : inR votes[k] (-1) 1 = false := hv
        clear hv
        go_wp2_with (go_at_call 41; refine (l6In_any _ _ _ _).mono ?_; rintro e w' ⟨rfl, rfl⟩)
        go_ret
        exact ⟨ret_bool hno.out.symm, HB0.out⟩
      · have HT2 := Lib.hid (all_snoc hl HT.out hv)
        have hv' : inR votes[k] (-1) 1 = true := hv
        clear hv
        have h3 := (inR_iff _ _ _).1 hv'
        by_cases e1 : votes[k] = 1
        · have HA2 := Lib.hid (cnt1_eq hl e1)
          have HB2 := Lib.hid (cnt1_ne hl (v := -1) (by rw [e1]; decide))
          rw [e1] at hc hv'
          clear h3 e1
          go_wp2_with (go_at_call 41; refine (l6In_any _ _ _ _).mono ?_; rintro e w' ⟨rfl, rfl⟩)
          go_round
          case rel => exact ⟨k + 1, a + 1, b, by omega, by omega, by omega, by go_num, by go_num, rfl, by show _ = _; rw [HA2.out, HA.out], by show _ = _; rw [HB2.out, HBB.out], HT2.out⟩
          case measure => simp [intOf]; omega
        · by_cases e2 : votes[k] = -1
          · have HA2 := Lib.hid (cnt1_ne hl e1)
            have HB2 := Lib.hid (cnt1_eq hl e2)
            rw [e2] at hc hv'
            clear h3 e1 e2
            go_wp2_with (go_at_call 41; refine (l6In_any _ _ _ _).mono ?_; rintro e w' ⟨rfl, rfl⟩)
            go_round
            case rel => exact ⟨k + 1, a, b + 1, by omega, by omega, by omega, by go_num, rfl, by go_num, by show _ = _; rw [HA2.out, HA.out], by show _ = _; rw [HB2.out, HBB.out], HT2.out⟩
            case measure => simp [intOf]; omega
          · have e3 : votes[k] = 0 := by omega
            have HA2 := Lib.hid (cnt1_ne hl e1)
            have HB2 := Lib.hid (cnt1_ne hl e2)
            rw [e3] at hc hv'
            clear h3 e1 e2 e3
            go_wp2_with (go_at_call 41; refine (l6In_any _ _ _ _).mono ?_; rintro e w' ⟨rfl, rfl⟩)
            go_round
            case rel => exact ⟨k + 1, a, b, by omega, by omega, by omega, by go_num, rfl, rfl, by show _ = _; rw [HA2.out, HA.out], by show _ = _; rw [HB2.out, HBB.out], HT2.out⟩
            case measure => simp [intOf]; omega
    · have hkn : k = n1 := by omega
      subst hkn
      have htk : votes.take k = votes := List.take_of_length_le (by have := HV.out.1; omega)
      rw [htk] at HA HBB HT
      clear htk
      rcases hp : partsB parts with _ | _
      · have hno := Lib.hid (txn_nopart (votes := votes) (dec := dec) hp)
        go_wp2_with fail
        refine (l22Parts_any parts A0 n0 c0 _ lo hi (by simp; omega) HP.out).mono ?_
        rintro e w1 ⟨rfl, hb1⟩
        have HB1 := Lib.hid (bel_tr HB0.out (Nat.le_refl _) hb1)
        clear hb1
        rw [hp]
        go_wp2_with fail
        go_ret
        exact ⟨ret_bool hno.out.symm, HB1.out⟩
      · go_wp2_with fail
        refine (l22Parts_any parts A0 n0 c0 _ lo hi (by simp; omega) HP.out).mono ?_
        rintro e w1 ⟨rfl, hb1⟩
        have HB1 := Lib.hid (bel_tr HB0.out (Nat.le_refl _) hb1)
        have HX1 := Lib.hid ((hb1.block _ (by simp)).trans HX0.out)
        have b0 := cell_of_row w1 w.heap.size 0 _ _ _ HX1.out
        have b1 := cell_of_row w1 w.heap.size 1 _ _ _ HX1.out
        have b2 := cell_of_row w1 w.heap.size 2 _ _ _ HX1.out
        clear hb1
        rw [hp]
        by_cases hl : k = n0
        · subst hl
          have HD := Lib.hid (txn_dec (dec := dec) hp (HN1.out.symm.trans HN0.out) HT.out)
          have HL := HV.out.1
          clear hp
          by_cases d0 : dec = 0
          · subst d0
            by_cases hb0 : b = 0
            · subst hb0
              go_wp2_with fail
              go_ret
              refine ⟨ret_bool ?_, HB1.out⟩
              rw [HD.out]; unfold decB
              rw [if_neg (by decide), if_neg (by decide), if_pos rfl, ← HA.out, ← HBB.out, HL]; simp
            · have q0 : (((b : Nat) : Int) == 0) = false := by simpa using hb0
              go_wp2_with fail
              go_ret
              refine ⟨ret_bool ?_, HB1.out⟩
              rw [HD.out]; unfold decB
              rw [if_neg (by decide), if_neg (by decide), if_pos rfl, ← HBB.out, decide_eq_false hb0]; rfl
          · by_cases d2 : dec = 2
            · subst d2
              clear d0
              go_wp2_with fail
              go_ret
              refine ⟨ret_bool ?_, HB1.out⟩
              rw [HD.out]; unfold decB
              rw [if_pos rfl, ← HA.out, HL, Bool.eq_iff_iff]; simp; omega
            · by_cases d3 : dec = 3
              · subst d3
                clear d0 d2
                go_wp2_with fail
                go_ret
                refine ⟨ret_bool ?_, HB1.out⟩
                rw [HD.out]; unfold decB
                rw [if_neg (by decide), if_pos rfl, ← HA.out, HL]
              · have q0 : (dec == 0) = false := by simpa using d0
                have q2 : (dec == 2) = false := by simpa using d2
                have q3 : (dec == 3) = false := by simpa using d3
                have HF : Hid (decB dec votes = false) := by show _ = _; unfold decB; rw [if_neg d2, if_neg d3, if_neg d0]
                clear d0 d2 d3
                go_wp2_with fail
                go_ret
                exact ⟨ret_bool (by rw [HD.out]; exact HF.out.symm), HB1.out⟩
        · have hno := Lib.hid (txn_nolen (dec := dec) (parts := parts) (votes := votes) (by have h1 := HN0.out; have h2 := HN1.out; omega))
          have hq : (!((k : Int) == (n0 : Int))) = true := by simp; omega
          go_wp2_with fail
          go_ret
          exact ⟨ret_bool hno.out.symm, HB1.out⟩

end Go.Proofs.Ytgbkjfhmbchiiaa

namespace Go.Proofs.Ytgbkjfhmbchiiaa
set_option linter.unusedVariables false
set_option linter.unusedSimpArgs false
open Go.RowKit

theorem ok_at {c : CoordD} {k : Nat} (hl : k < c.txns.length) (h1 : txnB c.txns[k] = true) (h2 : comAt c.txns k = hasB (k : Int) c.order) : okAt c k = true := by
  unfold okAt hasAt
  rw [List.getD_eq_getElem?_getD, List.getElem?_eq_getElem hl]
  show (txnB c.txns[k] && _) = true
  rw [h1, h2]; simp
theorem coordB_no2 {c : CoordD} {k : Nat} (hl : k < c.txns.length) (h2 : ¬ comAt c.txns k = hasB (k : Int) c.order) : coordB c = false := coordB_no hl (by
  unfold okAt hasAt
  have : (comAt c.txns k == hasB (k : Int) c.order) = false := by simpa using h2
  rw [this]; simp)
theorem coordB_end {c : CoordD} {n : Nat} (hn : n = c.txns.length) (h : allTo (okAt c) n = true) : coordB c = (decide (n ≤ 12) && decide (c.order.length = (commTo c.txns n).length)) := by
  subst hn
  rw [coordB_iff, h, comms_to]; simp
theorem commTo_yes {ts : List TxnD} {k : Nat} (h : comAt ts k = true) : (commTo ts (k + 1)).length = (commTo ts k).length + 1 := by rw [commTo_succ, if_pos h]; simp
theorem commTo_no {ts : List TxnD} {k : Nat} (h : comAt ts k = false) : (commTo ts (k + 1)).length = (commTo ts k).length := by rw [commTo_succ, h]; simp

set_option maxHeartbeats 3200000 in
set_option maxRecDepth 100000 in
theorem specCoord_any (txns : List TxnD) (order : List Int) (A0 : Option Addr) (n0 c0 : Nat) (A1 : Option Addr) (n1 c1 : Nat) (w : World) (lo hi : Nat) (hh : hi ≤ w.heap.size) (hr0 : D.rd w lo hi (dTxns txns) (.slice A0 n0 c0)) (hr1 : D.rd w lo hi (intsD order) (.slice A1 n1 c1)) :
    Calls Try.prog 11 #[.agg #[.slice A0 n0 c0, .slice A1 n1 c1]] w fun e w' => e = .returned (.bool (coordB ⟨txns, order⟩)) ∧ Below w.heap.size w w' := by
  have HB0 : Hid (Below w.heap.size w (w.alloc (.cells #[.slice A0 n0 c0, .slice A1 n1 c1] 26))) := (Below.refl _ _).alloc (Nat.le_refl _) _
  have HX0 : Hid ((w.alloc (.cells #[.slice A0 n0 c0, .slice A1 n1 c1] 26)).heap[w.heap.size]? = some (.cells #[.slice A0 n0 c0, .slice A1 n1 c1] 26 (0, 0))) := Lib.hid (heap_alloc_new w _)
  have HI := Lib.hid hr0
  have HO := Lib.hid hr1.ints
  have HN0 := Lib.hid hr0.len.1
  have hn63 : n0 ≤ 9223372036854775807 := by have := hr0.len; omega
  have hm63 : n1 ≤ 9223372036854775807 := by have := hr1.len; omega
  have HN1 := Lib.hid hr1.ints.1
  clear hr0 hr1
  go_enter Try.func11, Try.ntmps11
  go_wp2_with fail
  go_loopw [3, 4] (fun y i wr => ∃ k a : Nat, k ≤ n0 ∧ a ≤ k ∧ i = .int .i64 k ∧ y = .int .i64 a ∧ Hid (a = (commTo txns k).length) ∧ Hid (allTo (okAt ⟨txns, order⟩) k = true) ∧ Hid (wr.heap[w.heap.size]? = some (.cells #[.slice A0 n0 c0, .slice A1 n1 c1] 26 (0, 0))) ∧ Below w.heap.size w wr) (fun _ i _ => n0 - (intOf i).toNat)
  case atStart => exact ⟨0, 0, Nat.zero_le _, Nat.zero_le _, rfl, rfl, rfl, rfl, HX0.out, HB0.out⟩
  case round =>
    obtain ⟨k, a, hk, ha, rfl, rfl, HA, HT, HX, hb⟩ := hrel
    have HB := Lib.hid hb
    have hwsz : w.heap.size < wr.heap.size := hlt_of HX.out
    have b0 := cell_of_row wr w.heap.size 0 _ _ _ HX.out
    have b1 := cell_of_row wr w.heap.size 1 _ _ _ HX.out
    clear hb HX0 HB0
    by_cases hlt : k < n0
    · obtain ⟨b, o, hl, A2, n2, c2, A3, n3, c3, rfl, _, hbh, hc0, hc1, hc2, ⟨hn2, hm2, hr2⟩, ⟨hn3, hm3, hr3⟩⟩ := rd_Txn (HI.out.below HB.out hh) hlt
      have HR2 := Lib.hid hr2
      have HR3 := Lib.hid hr3
      have hhr : hi ≤ wr.heap.size := by omega
      have hbw : b < wr.heap.size := by omega
      clear hr2 hr3
      rcases hv : txnB txns[k] with _ | _
      · have hno := Lib.hid (coordB_no1 (c := ⟨txns, order⟩) hl hv)
        have hv' : txnB ⟨txns[k].parts, txns[k].votes, txns[k].dec⟩ = false := hv
        go_wp2_with fail
        refine (l22Txn_any txns[k].parts txns[k].votes txns[k].dec A2 n2 c2 A3 n3 c3 _ lo hi hhr HR2.out HR3.out).mono ?_
        rintro e w1 ⟨rfl, hb1⟩
        have HB1 := Lib.hid (bel_tr HB.out (Nat.le_refl _) hb1)
        clear hb1
        rw [hv']
        go_wp2_with fail
        go_ret
        exact ⟨ret_bool hno.out.symm, HB1.out⟩
      · have hv' : txnB ⟨txns[k].parts, txns[k].votes, txns[k].dec⟩ = true := hv
        have HY := Lib.hid (fun g => ok_at (c := ⟨txns, order⟩) hl hv g)
        have HN := Lib.hid (fun g => coordB_no2 (c := ⟨txns, order⟩) hl g)
        have HC := Lib.hid (comAt_get hl)
        clear hv
        go_wp2_with fail
        refine (l22Txn_any txns[k].parts txns[k].votes txns[k].dec A2 n2 c2 A3 n3 c3 _ lo hi hhr HR2.out HR3.out).mono ?_
        rintro e w1 ⟨rfl, hb1⟩
        have HB1 := Lib.hid (bel_tr HB.out (Nat.le_refl _) hb1)
        have HX1 := Lib.hid ((hb1.block _ hwsz).trans HX.out)
        have hz1 : w.heap.size < w1.heap.size := hlt_of HX1.out
        have hh1 : hi ≤ w1.heap.size := Nat.le_trans hhr hb1.size
        have d0 := cell_of_row w1 w.heap.size 0 _ _ _ HX1.out
        have d1 := cell_of_row w1 w.heap.size 1 _ _ _ HX1.out
        have d2 : w1.cell? ⟨b, o + k * 3 + 2, none⟩ = some (.int .i64 txns[k].dec) := (hb1.cell hbw).trans hc2
        have HO1 : Hid (Ints w1 lo hi A1 n1 order) := HO.out.below HB1.out hh
        have hq0 : ∀ p : BelBy w1, p.w.cell? ⟨w.heap.size, 0, none⟩ = some (.slice (some ⟨b, o, none⟩) n0 c0) := fun p => p.cell d0
        have hq1 : ∀ p : BelBy w1, p.w.cell? ⟨w.heap.size, 1, none⟩ = some (.slice A1 n1 c1) := fun p => p.cell d1
        have hq2 : ∀ p : BelBy w1, p.w.cell? ⟨b, o + k * 3 + 2, none⟩ = some (.int .i64 txns[k].dec) := fun p => p.cell d2
        have hkn1 : (k : Int) < (n0 : Int) := by omega
        clear hb1
        rw [hv']
        obtain ⟨hs, hhs⟩ : ∃ q, hasB (k : Int) order = q := ⟨_, rfl⟩
        by_cases hd : txns[k].dec = 2
        · have hd2 : (txns[k].dec == 2) = true := by simpa using hd
          have HC2 : Hid (comAt txns k = true) := HC.out.trans (decide_eq_true hd)
          have HCN := Lib.hid (commTo_yes HC2.out)
          clear hd
          rcases hs with _ | _
          · have hno := Lib.hid (HN.out (by show ¬ comAt txns k = hasB (k : Int) order; rw [HC2.out, hhs]; decide))
            go_wp2_with fail
            refine quiet_bel (by kernel_rfl) (by kernel_rfl) ?_
            repeat (go_big_quiet_step ((go_at_call 30; exact bel_same (l1Has_any A1 n1 c1 order _ _ lo hi (by omega) (HO1.out.below (BelBy.h _) hh1)))))
            refine wpQuiet_nil ?_
            intro _ hw'
            obtain ⟨⟨wz, hbz⟩, rfl⟩ := hw'
            have HBZ := Lib.hid (bel_tr HB1.out (Nat.le_refl _) hbz)
            clear hbz hq0 hq1 hq2
            rw [hhs]
            go_wp2_with fail
            go_ret
            exact ⟨ret_bool hno.out.symm, HBZ.out⟩
          · have hyes := Lib.hid (HY.out (by show comAt txns k = hasB (k : Int) order; rw [HC2.out, hhs]))
            go_wp2_with fail
            refine quiet_bel (by kernel_rfl) (by kernel_rfl) ?_
            repeat (go_big_quiet_step ((go_at_call 30; exact bel_same (l1Has_any A1 n1 c1 order _ _ lo hi (by omega) (HO1.out.below (BelBy.h _) hh1)))))
            refine wpQuiet_nil ?_
            intro _ hw'
            obtain ⟨⟨wz, hbz⟩, rfl⟩ := hw'
            have HBZ := Lib.hid (bel_tr HB1.out (Nat.le_refl _) hbz)
            have HXZ := Lib.hid ((hbz.block _ hz1).trans HX1.out)
            clear hbz hq0 hq1 hq2
            rw [hhs]
            go_wp2_with fail
            exact ⟨⟨k + 1, a + 1, by omega, by omega, by go_num, by go_num, by show _ = _; rw [HCN.out, HA.out], allTo_succ HT.out hyes.out, HXZ, HBZ.out⟩, by simp [intOf]; omega⟩
        · have hd2 : (txns[k].dec == 2) = false := by simpa using hd
          have HC2 : Hid (comAt txns k = false) := HC.out.trans (decide_eq_false hd)
          have HCN := Lib.hid (commTo_no HC2.out)
          clear hd
          rcases hs with _ | _
          · have hyes := Lib.hid (HY.out (by show comAt txns k = hasB (k : Int) order; rw [HC2.out, hhs]))
            go_wp2_with fail
            refine quiet_bel (by kernel_rfl) (by kernel_rfl) ?_
            repeat (go_big_quiet_step ((go_at_call 30; exact bel_same (l1Has_any A1 n1 c1 order _ _ lo hi (by omega) (HO1.out.below (BelBy.h _) hh1)))))
            refine wpQuiet_nil ?_
            intro _ hw'
            obtain ⟨⟨wz, hbz⟩, rfl⟩ := hw'
            have HBZ := Lib.hid (bel_tr HB1.out (Nat.le_refl _) hbz)
            have HXZ := Lib.hid ((hbz.block _ hz1).trans HX1.out)
            clear hbz hq0 hq1 hq2
            rw [hhs]
            go_wp2_with fail
            exact ⟨⟨k + 1, a, by omega, by omega, by go_num, rfl, by show _ = _; rw [HCN.out, HA.out], allTo_succ HT.out hyes.out, HXZ, HBZ.out⟩, by simp [intOf]; omega⟩
          · have hno := Lib.hid (HN.out (by show ¬ comAt txns k = hasB (k : Int) order; rw [HC2.out, hhs]; decide))
            go_wp2_with fail
            refine quiet_bel (by kernel_rfl) (by kernel_rfl) ?_
            repeat (go_big_quiet_step ((go_at_call 30; exact bel_same (l1Has_any A1 n1 c1 order _ _ lo hi (by omega) (HO1.out.below (BelBy.h _) hh1)))))
            refine wpQuiet_nil ?_
            intro _ hw'
            obtain ⟨⟨wz, hbz⟩, rfl⟩ := hw'
            have HBZ := Lib.hid (bel_tr HB1.out (Nat.le_refl _) hbz)
            clear hbz hq0 hq1 hq2
            rw [hhs]
            go_wp2_with fail
            go_ret
            exact ⟨ret_bool hno.out.symm, HBZ.out⟩
    · have hkn : k = n0 := by omega
      subst hkn
      have HE := Lib.hid (coordB_end (c := ⟨txns, order⟩) HN0.out HT.out)
      go_wp2_with fail
      · go_ret
        refine ⟨ret_bool ?_, HB.out⟩
        rw [HE.out, decide_eq_true (by omega : k ≤ 12)]
        show _ = (true && decide (order.length = (commTo txns k).length))
        rw [← HA.out, HN1.out, Bool.true_and, Bool.eq_iff_iff]; simp; omega
      · go_ret
        refine ⟨ret_bool ?_, HB.out⟩
        rw [HE.out, decide_eq_false (by omega : ¬ k ≤ 12)]; rfl

end Go.Proofs.Ytgbkjfhmbchiiaa
