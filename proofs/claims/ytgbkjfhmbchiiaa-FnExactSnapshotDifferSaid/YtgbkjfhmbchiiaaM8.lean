/-
  The walk of the program's Txn.ok: whether a transaction is valid: its votes go through a channel and are counted in a map. Condition: lengths fit an int64, the votes are ints.
  The walks of the program's Txn.partAt and of the closure that it hands to slices.IndexFunc: the place of the part for a shard. Condition: lengths fit an int64.
  The walks of RefsApply, of the program and of the reference: new memory that holds applyL of the refs and the updates. Condition: lengths fit an int64.
  What records and shards are, in plain Lean: the last record of a transaction, the state behind records, and what holds of valid records. No program in sight.
-/
import Derived.Test.YtgbkjfhmbchiiaaM7
import Derived.Test.YtgbkjfhmbchiiaaM4
import Derived.BigQuiet
import Derived.Test.YtgbkjfhmbchiiaaM2
import Derived.Test.YtgbkjfhmbchiiaaM5
import Derived.Test.YtgbkjfhmbchiiaaRefsV
import Derived.StillTailTactics
import Derived.Test.YtgbkjfhmbchiiaaM3
import Derived.Test.YtgbkjfhmbchiiaaM6
namespace Go.Proofs.Ytgbkjfhmbchiiaa
set_option linter.unusedVariables false
set_option linter.unusedSimpArgs false
open Go.RowKit Go.Conc

theorem Try.bytesInt : ∃ i, Try.prog.info? 3 = some i ∧ i.bytes = 8 := by
  have h : (Try.prog.info? 3).map (·.bytes) = some 8 := by kernel_rfl
  obtain ⟨i, hi, hb⟩ := Option.map_eq_some_iff.1 h
  exact ⟨i, hi, hb⟩
theorem hlt_of {w : World} {g : Nat} {o : Obj} (h : w.heap[g]? = some o) : g < w.heap.size := by
  rcases Nat.lt_or_ge g w.heap.size with hlt | hge
  · exact hlt
  · rw [Array.getElem?_eq_none hge] at h; cases h
theorem mk_chan (w : World) (n : Nat) (hn : n ≤ 3) : (Instr.makeChan 94 (.int .i64 (n : Int))).run Try.prog w = .ok (.chan (some w.heap.size)) (w.alloc (.chan n #[] false 0 0 false)) := by
  obtain ⟨i, hi, hb⟩ := Try.bytesInt
  simpa using run_makeChan (P := Try.prog) (w := w) Try.underlying94 hi .i64 n (by omega) (by rw [hb]; omega)

/-- the first k votes lie in the channel's buffer -/
def bufTo (votes : List Int) (k : Nat) : Array Value := ((votes.take k).map (Value.int .i64)).toArray
theorem bufTo_size {votes : List Int} {k : Nat} (h : k ≤ votes.length) : (bufTo votes k).size = k := by unfold bufTo; simp; omega
theorem bufTo_push {votes : List Int} {k : Nat} (h : k < votes.length) : (bufTo votes k).push (.int .i64 votes[k]) = bufTo votes (k + 1) := by
  unfold bufTo
  rw [List.take_succ_eq_append_getElem h, List.map_append, List.push_toArray]
  rfl

/-- the votes from the j-th on lie in the channel's buffer -/
def bufFrom (votes : List Int) (j : Nat) : Array Value := ((votes.drop j).map (Value.int .i64)).toArray
theorem bufFrom_size (votes : List Int) (j : Nat) : (bufFrom votes j).size = votes.length - j := by unfold bufFrom; simp
theorem bufTo_all (votes : List Int) : bufTo votes votes.length = bufFrom votes 0 := by unfold bufTo bufFrom; simp
theorem bufFrom_get {votes : List Int} {j : Nat} (h : j < votes.length) : (bufFrom votes j).getD 0 undef = .int .i64 votes[j] := by
  unfold bufFrom
  rw [List.drop_eq_getElem_cons h]
  rfl
theorem bufFrom_next {votes : List Int} {j : Nat} (h : j < votes.length) : (bufFrom votes j).extract 1 (bufFrom votes j).size = bufFrom votes (j + 1) := by
  rw [bufFrom_size]
  unfold bufFrom
  rw [List.drop_eq_getElem_cons h]
  apply Array.ext'
  simp
  rw [List.take_of_length_le (by simp; omega)]
theorem bufFrom_nil {votes : List Int} {j : Nat} (h : votes.length ≤ j) : bufFrom votes j = #[] := by
  unfold bufFrom
  rw [List.drop_eq_nil_of_le h]
  rfl
section
variable {votes : List Int} {dec : Int} {j y nn mm : Nat}
theorem txe1 (hl : votes.length = j) (hs : y + nn + mm ≤ votes.length ∧ (y + nn + mm = votes.length ↔ votes.all voteB = true)) (h : ((y : Int) + nn + mm != j) = true) : false = (votes.all voteB && decB dec votes) := by
  have : votes.all voteB = false := by
    rcases e : votes.all voteB with _ | _
    · rfl
    · have := hs.2.2 e; simp at h; omega
  rw [this]; rfl
theorem tx_all (hl : votes.length = j) (hs : y + nn + mm ≤ votes.length ∧ (y + nn + mm = votes.length ↔ votes.all voteB = true)) (h : ((y : Int) + nn + mm != j) = false) : votes.all voteB = true := hs.2.1 (by simp at h; omega)
theorem txe2 (hl : votes.length = j) (hy : cnt1 1 votes = y) (hs : y + nn + mm ≤ votes.length ∧ (y + nn + mm = votes.length ↔ votes.all voteB = true)) (h : ((y : Int) + nn + mm != j) = false) (hd : (dec == 2) = true) : ((y : Int) == (j : Int)) = (votes.all voteB && decB dec votes) := by
  have hd : dec = 2 := by simpa using hd
  rw [tx_all hl hs h]; unfold decB; rw [if_pos hd, hy, hl, Bool.true_and, Bool.eq_iff_iff]; simp; omega
theorem txe3 (hl : votes.length = j) (hy : cnt1 1 votes = y) (hs : y + nn + mm ≤ votes.length ∧ (y + nn + mm = votes.length ↔ votes.all voteB = true)) (h : ((y : Int) + nn + mm != j) = false) (hd : (dec == 3) = true) : decide (y < j) = (votes.all voteB && decB dec votes) := by
  have hd : dec = 3 := by simpa using hd
  rw [tx_all hl hs h]; unfold decB; rw [if_neg (by omega), if_pos hd, hy, hl, Bool.true_and]
theorem txe4 (hl : votes.length = j) (hy : cnt1 1 votes = y) (hn : cnt1 (-1) votes = nn) (hs : y + nn + mm ≤ votes.length ∧ (y + nn + mm = votes.length ↔ votes.all voteB = true)) (h : ((y : Int) + nn + mm != j) = false) (hd : (dec == 0) = true) (h0 : nn = 0) : decide (0 < mm) = (votes.all voteB && decB dec votes) := by
  have hd : dec = 0 := by simpa using hd
  have h : y + nn + mm = j := by simp at h; omega
  have ha := hs.2.1 (by omega)
  rw [ha]; unfold decB; rw [if_neg (by omega), if_neg (by omega), if_pos hd, hy, hn, hl, Bool.true_and, h0, decide_eq_true (rfl : (0 : Nat) = 0), Bool.true_and, Bool.eq_iff_iff]; simp; omega
theorem txe5 (hn : cnt1 (-1) votes = nn) (hd : (dec == 0) = true) (h0 : ¬ nn = 0) : false = (votes.all voteB && decB dec votes) := by
  have hd : dec = 0 := by simpa using hd
  unfold decB; rw [if_neg (by omega), if_neg (by omega), if_pos hd, hn, decide_eq_false h0]; simp
theorem txe6 (h2 : (dec == 2) = false) (h3 : (dec == 3) = false) (h0 : (dec == 0) = false) : false = (votes.all voteB && decB dec votes) := by
  have h2 : ¬ dec = 2 := by simpa using h2
  have h3 : ¬ dec = 3 := by simpa using h3
  have h0 : ¬ dec = 0 := by simpa using h0
  unfold decB; rw [if_neg h2, if_neg h3, if_neg h0]; simp
end
def bufLen (w : World) (c : Nat) : Nat := match w.heap[c]? with | some (.chan _ b _ _ _ _) => b.size | _ => 0
theorem bufLen_of {w : World} {c k : Nat} {b : Array Value} {cl : Bool} {s r : Nat} {tm : Bool} (h : w.heap[c]? = some (.chan k b cl s r tm)) : bufLen w c = b.size := by unfold bufLen; rw [h]
theorem cnt1_snoc {votes : List Int} {j : Nat} (h : j < votes.length) (i : Int) : cnt1 i (votes.take (j + 1)) = (if i = votes[j] then cnt1 i (votes.take j) + 1 else cnt1 i (votes.take j)) := by
  unfold cnt1
  rw [List.take_succ_eq_append_getElem h, List.countP_append, List.countP_singleton]
  by_cases e : i = votes[j]
  · rw [if_pos e, if_pos (by simp [e])]
  · rw [if_neg e, if_neg (by simp; exact fun x => e x.symm)]; omega
theorem got_true (v : Value) (o : Bool) : got true v o = .tuple #[v, .bool o] := rfl
theorem zeroI (w : World) : (zeroValue 3).run Try.prog w = .ok (.int .i64 0) w := by kernel_rfl

set_option maxHeartbeats 3200000 in
set_option maxRecDepth 100000 in
theorem txnOk_any (parts : List PartD) (votes : List Int) (dec : Int) (A0 : Option Addr) (n0 c0 : Nat) (A1 : Option Addr) (n1 c1 : Nat) (w : World) (lo hi : Nat) (hh : hi ≤ w.heap.size) (hr0 : D.rd w lo hi (dParts parts) (.slice A0 n0 c0)) (hr1 : D.rd w lo hi (intsD votes) (.slice A1 n1 c1)) (hwf : ∀ v ∈ votes, (Lit.int .i64 v).wf = true) :
    Calls Try.prog 46 #[.agg #[.slice A0 n0 c0, .slice A1 n1 c1, .int .i64 dec]] w fun e w' => e = .returned (.bool (txnB ⟨parts, votes, dec⟩)) ∧ Below w.heap.size w w' := by
  have HB0 : Hid (Below w.heap.size w (w.alloc (.cells #[.slice A0 n0 c0, .slice A1 n1 c1, .int .i64 dec] 46))) := (Below.refl _ _).alloc (Nat.le_refl _) _
  have HP := Lib.hid (hr0.alloc hh (.cells #[.slice A0 n0 c0, .slice A1 n1 c1, .int .i64 dec] 46))
  have HV := Lib.hid hr1
  have HN0 := Lib.hid hr0.len.1
  have HN1 := Lib.hid hr1.ints.1
  have HWF := Lib.hid hwf
  clear hr0 hr1 hwf
  go_enter Try.func46, Try.ntmps46
  go_wp2_with fail
  refine (partsOk_any parts A0 n0 c0 _ lo hi (by simp; omega) HP.out).mono ?_
  rintro e w1 ⟨rfl, hb1⟩
  have HX1 : Hid (w1.heap[w.heap.size]? = some (.cells #[.slice A0 n0 c0, .slice A1 n1 c1, .int .i64 dec] 46 (0, 0))) := Lib.hid ((hb1.block _ (by simp)).trans (heap_alloc_new w _))
  have HB1 := Lib.hid (bel_tr HB0.out (Nat.le_refl _) hb1)
  have hz1 : w.heap.size < w1.heap.size := by have := hb1.size; simp at this; omega
  have b0 := cell_of_row w1 w.heap.size 0 _ _ _ HX1.out
  have b1 := cell_of_row w1 w.heap.size 1 _ _ _ HX1.out
  have b2 := cell_of_row w1 w.heap.size 2 _ _ _ HX1.out
  clear hb1
  rcases hp : partsB parts with _ | _
  · have hno : Hid (txnB ⟨parts, votes, dec⟩ = false) := by show _ = _; unfold txnB; rw [hp]; rfl
    go_wp2_with fail
    go_ret
    exact ⟨ret_bool hno.out.symm, HB1.out⟩
  by_cases hl : n1 = n0
  · subst hl
    have hl3 : n1 ≤ 3 := by rw [HN0.out]; exact partsB_len hp
    have hl1 : 0 < n1 := by rw [HN0.out]; exact (partsB_and hp).2
    have hmc := fun W : World => mk_chan W n1 hl3
    have HPB := Lib.hid hp
    clear hp
    have HB2 : Hid (Below w.heap.size w (w1.alloc (.chan n1 #[] false 0 0 false))) := Lib.hid (HB1.out.alloc (by omega) _)
    have HX2 : Hid ((w1.alloc (.chan n1 #[] false 0 0 false)).heap[w.heap.size]? = some (.cells #[.slice A0 n1 c0, .slice A1 n1 c1, .int .i64 dec] 46 (0, 0))) := Lib.hid ((Below.heap_alloc w1 _ _ hz1).trans HX1.out)
    have HC2 : Hid ((w1.alloc (.chan n1 #[] false 0 0 false)).heap[w1.heap.size]? = some (.chan n1 #[] false 0 0 false)) := Lib.hid (heap_alloc_new w1 _)
    go_wp2_with fail
    go_loopw [31] (fun i wr => ∃ k : Nat, k ≤ n1 ∧ i = .int .i64 k ∧ Hid (wr.heap[w1.heap.size]? = some (.chan n1 (bufTo votes k) false k 0 false)) ∧ Hid (wr.heap[w.heap.size]? = some (.cells #[.slice A0 n1 c0, .slice A1 n1 c1, .int .i64 dec] 46 (0, 0))) ∧ Below w.heap.size w wr) (fun i _ => n1 - (intOf i).toNat)
    case atStart => exact ⟨0, Nat.zero_le _, rfl, HC2.out, HX2.out, HB2.out⟩
    case round =>
      obtain ⟨k, hk, rfl, HC, HX, hb⟩ := hrel
      have HB := Lib.hid hb
      clear hb HC2 HX2 HB2
      by_cases hlt : k < n1
      · obtain ⟨b, o, hlv, rfl, _, _, hc⟩ := (HV.out.below HB.out hh).ints.int hlt
        go_upto_region 7 with (fail)
        refine WpO.region ?_
        simp only [List.size_toArray, List.length_cons, List.length_nil, Nat.reduceAdd, Nat.zero_add, List.range, List.range.loop]
        refine WpO.value (v := .chan (some w1.heap.size)) rfl rfl rfl ?_
        refine WpO.value (v := .int .i64 votes[k]) rfl rfl rfl ?_
        refine WpO.send (v := .int .i64 votes[k]) (z := .tuple #[]) rfl rfl (by simp [execOp, scase, Act.eval, Act.put]) HC.out (by rw [bufTo_size (by omega)]; exact hlt) ?_
        refine WpO.nil ?_
        rw [bufTo_push hlv]
        have HC3 : Hid ((wr.setChan w1.heap.size n1 (bufTo votes (k + 1)) false (k + 1) 0 false).heap[w1.heap.size]? = some (.chan n1 (bufTo votes (k + 1)) false (k + 1) 0 false)) := chan_block (hlt_of HC.out)
        have HX3 : Hid ((wr.setChan w1.heap.size n1 (bufTo votes (k + 1)) false (k + 1) 0 false).heap[w.heap.size]? = some (.cells #[.slice A0 n1 c0, .slice (some ⟨b, o, none⟩) n1 c1, .int .i64 dec] 46 (0, 0))) := Lib.hid (((chan_grown wr _ _ _ _ _ _ _).block _ (hlt_of HX.out) (fun e => by injection e with e; omega)).trans HX.out)
        have HB3 : Hid (Below w.heap.size w (wr.setChan w1.heap.size n1 (bufTo votes (k + 1)) false (k + 1) 0 false)) := below_setChan HB.out (by omega) _ _ _ _ _ _
        go_wp2_with fail
        exact ⟨⟨k + 1, by omega, by go_num, HC3, HX3, HB3⟩, by simp [intOf]; omega⟩
      · have hkn : k = n1 := by omega
        subst hkn
        obtain ⟨w4, hcl, hc4, hg4⟩ : ∃ w4 : World, (∀ ats ty, (Builtin.close_ ats ty #[.chan (some w1.heap.size)]).run Try.prog wr = .ok (.tuple #[]) w4) ∧ w4.heap[w1.heap.size]? = some (.chan k (bufTo votes k) true k 0 false) ∧ wr.grownBy w4 (some w1.heap.size) :=
          ⟨wr.setChan w1.heap.size k (bufTo votes k) true k 0 false, fun ats ty => run_close_open (P := Try.prog) (w := wr) ats ty HC.out, chan_block (hlt_of HC.out), chan_grown wr _ _ _ _ _ _ _⟩
        have hkv : bufTo votes k = bufFrom votes 0 := by have := HN1.out; subst this; exact bufTo_all votes
        rw [hkv] at hc4
        have hx4 := (hg4.block _ (hlt_of HX.out) (fun e => by injection e with e; omega)).trans HX.out
        have hb4 := HB.out.grown hg4 (by have := HB.out.size; omega) (fun q hq => by injection hq with hq; omega)
        have hz4 : w.heap.size ≤ w4.heap.size := hb4.size
        have HZ4 : Hid (w1.heap.size < w4.heap.size) := Lib.hid (hlt_of hc4)
        have HM5 := Lib.hid (MapI.made w4 Try.prog 3)
        have HC5 : Hid ((w4.alloc (.map #[] 0)).heap[w1.heap.size]? = some (.chan k (bufFrom votes 0) true k 0 false)) := Lib.hid ((Below.heap_alloc w4 _ _ HZ4.out).trans hc4)
        have HX5 : Hid ((w4.alloc (.map #[] 0)).heap[w.heap.size]? = some (.cells #[.slice A0 k c0, .slice A1 k c1, .int .i64 dec] 46 (0, 0))) := Lib.hid ((Below.heap_alloc w4 _ _ (by have := HZ4.out; omega)).trans hx4)
        have HB5 : Hid (Below w.heap.size w (w4.alloc (.map #[] 0))) := Lib.hid (hb4.alloc (by omega) _)
        have hmm := @run_makeMap Try.prog
        clear hc4 hg4 hx4 hb4 HC HX HB hkv
        go_wp2_with fail
        clear hcl hmm
        go_loopw [] (fun ws => ∃ (j n : Nat) (C : Int → Option Value), j ≤ k ∧ n ≤ j ∧ Hid (ws.heap[w1.heap.size]? = some (.chan k (bufFrom votes j) true k j false)) ∧ Hid (MapI Try.prog 3 ws w4.heap.size n C) ∧ Hid (∀ i : Int, (C i).getD (.int .i64 0) = .int .i64 (cnt1 i (votes.take j))) ∧ Hid (ws.heap[w.heap.size]? = some (.cells #[.slice A0 k c0, .slice A1 k c1, .int .i64 dec] 46 (0, 0))) ∧ Below w.heap.size w ws) (fun ws => bufLen ws w1.heap.size)
        case atStart => exact ⟨0, 0, fun _ => none, Nat.zero_le _, Nat.le_refl _, HC5.out, HM5.out, Lib.hid (fun i => rfl), HX5.out, HB5.out⟩
        case round =>
          obtain ⟨j, n, C, hj, hn, HC6, HM6, HK6, HX6, hb6⟩ := hrel
          have HB6 := Lib.hid hb6
          clear hb6 HC5 HM5 HX5 HB5
          by_cases hjk : j < k
          · have hjv : j < votes.length := by have := HN1.out; omega
            go_upto_region 12 with (fail)
            refine WpO.region ?_
            simp only [List.size_toArray, List.length_cons, List.length_nil, Nat.reduceAdd, Nat.zero_add, List.range, List.range.loop]
            refine WpO.recv (z := .int .i64 0) true rfl rfl (by simp [execOp, rcase, Act.eval, Act.put, Try.underlying94, zeroI]) HC6.out (by rw [bufFrom_size]; omega) ?_
            rw [bufFrom_get hjv, bufFrom_next hjv, got_true]
            refine WpO.value (v := .bool true) rfl rfl rfl ?_
            refine WpO.nil ?_
            have hg7 := chan_grown wr w1.heap.size k (bufFrom votes (j + 1)) true k (j + 1) false
            have hc7 : (wr.setChan w1.heap.size k (bufFrom votes (j + 1)) true k (j + 1) false).heap[w1.heap.size]? = some (.chan k (bufFrom votes (j + 1)) true k (j + 1) false) := chan_block (hlt_of HC6.out)
            generalize wr.setChan w1.heap.size k (bufFrom votes (j + 1)) true k (j + 1) false = w7 at hg7 hc7 ⊢
            have hx7 := (hg7.block _ (hlt_of HX6.out) (fun e => by injection e with e; omega)).trans HX6.out
            have HL6 := Lib.hid (bufLen_of HC6.out)
            have hb7 := HB6.out.grown hg7 (by have := HB6.out.size; omega) (fun q hq => by injection hq with hq; omega)
            have hm7 := HM6.out.kept hg7 (fun e => by injection e with e; have := HZ4.out; omega)
            have hwv : (Lit.int .i64 votes[j]).wf = true := HWF.out _ (List.getElem_mem hjv)
            have hlk := hm7.get (e := 3) (t := 95) Try.underlying3 Try.underlying95 (zeroI w7) hwv
            rw [HK6.out] at hlk
            obtain ⟨w8, hup, hm8, hg8⟩ := hm7.set (e := 3) (t := 95) Try.underlying3 Try.underlying95 (by unfold maxLen; omega) hwv (.int .i64 ((cnt1 votes[j] (votes.take j) : Nat) + 1 : Int))
            have HX7 := Lib.hid hx7
            have HB7 := Lib.hid hb7
            have HM7 := Lib.hid hm7
            have HC7 := Lib.hid hc7
            have HZ7 := Lib.hid hwv
            have hcl : cnt1 votes[j] (votes.take j) ≤ j := by unfold cnt1; exact Nat.le_trans List.countP_le_length (by simp; omega)
            clear hx7 hb7 hm7 hc7 hg7 hwv HX6 HB6 HM6 HC6
            have HC8 : Hid (w8.heap[w1.heap.size]? = some (.chan k (bufFrom votes (j + 1)) true k (j + 1) false)) := Lib.hid ((hg8.block _ (hlt_of HC7.out) (fun e => by injection e with e; have := HZ4.out; omega)).trans HC7.out)
            have HX8 : Hid (w8.heap[w.heap.size]? = some (.cells #[.slice A0 k c0, .slice A1 k c1, .int .i64 dec] 46 (0, 0))) := Lib.hid ((hg8.block _ (hlt_of HX7.out) (fun e => by injection e with e; have := HZ4.out; omega)).trans HX7.out)
            have HB8 : Hid (Below w.heap.size w w8) := HB7.out.grown hg8 HB7.out.size (fun q hq => by injection hq with hq; have := HZ4.out; omega)
            have HM8 := Lib.hid hm8
            have HL8 :  Hid (bufLen w8 w1.heap.size < bufLen wr w1.heap.size) := by
              show _ < _
              rw [bufLen_of HC8.out, HL6.out, bufFrom_size, bufFrom_size]; omega
            have HK8 : Hid (∀ i : Int, ((fun x => if x = votes[j] then some (Value.int .i64 ((cnt1 votes[j] (votes.take j) : Nat) + 1 : Int)) else C x) i).getD (.int .i64 0) = .int .i64 (cnt1 i (votes.take (j + 1)))) := Lib.hid fun i => by
              rw [cnt1_snoc hjv]
              by_cases e : i = votes[j]
              · simp only [if_pos e, e]; rfl
              · simp only [if_neg e]; exact HK6.out i
            clear hm8 hg8
            go_wp2_with fail
            exact ⟨⟨j + 1, n + 1, _, by omega, by omega, HC8, HM8, HK8, HX8, HB8⟩, HL8.out⟩
          · have hjn : j = k := by omega
            subst hjn
            have hkl : votes.take j = votes := List.take_of_length_le (by have := HN1.out; omega)
            rw [hkl] at HK6
            have hget : ∀ i : Int, (Lit.int .i64 i).wf = true → ∀ m, (Instr.lookup 95 (.map (some w4.heap.size)) (.int .i64 i) false).run Try.prog (wr.drewN m) = .ok (.int .i64 (cnt1 i votes)) (wr.drewN m) := fun i hi m => by
              rw [← HK6.out]
              exact (HM6.out.drewN m).get (e := 3) (t := 95) Try.underlying3 Try.underlying95 (zeroI _) hi
            have q1 := hget 1 (by decide)
            have q2 := hget (-1) (by decide)
            have q3 := hget 0 (by decide)
            have b0 := cell_of_row wr w.heap.size 0 _ _ _ HX6.out
            have b1 := cell_of_row wr w.heap.size 1 _ _ _ HX6.out
            have b2 := cell_of_row wr w.heap.size 2 _ _ _ HX6.out
            have hsum := cnt_sum votes
            have hlen := HN1.out
            have HTX : Hid (txnB ⟨parts, votes, dec⟩ = (votes.all voteB && decB dec votes)) := by
              show _ = _
              unfold txnB
              have e1 : partsB parts = true := HPB.out
              have e2 : decide (votes.length = parts.length) = true := decide_eq_true (by rw [hlen]; exact HN0.out)
              show (partsB parts && decide (votes.length = parts.length) && votes.all voteB && decB dec votes) = _
              rw [e1, e2]; simp
            clear hget
            go_upto_region 12 with (fail)
            refine WpO.region ?_
            simp only [List.size_toArray, List.length_cons, List.length_nil, Nat.reduceAdd, Nat.zero_add, List.range, List.range.loop]
            refine WpO.shut (c := w1.heap.size) (z := .int .i64 0) true rfl rfl (by simp [execOp, rcase, Act.eval, Act.put, Try.underlying94, zeroI]) (by rw [HC6.out, bufFrom_nil (by omega)]) ?_
            rw [got_true]
            refine WpO.value (v := .bool false) rfl rfl rfl ?_
            refine WpO.nil ?_
            go_wp2_with fail
            generalize hy : cnt1 1 votes = y at q1 hsum
            generalize hnn : cnt1 (-1) votes = nn at q2 hsum
            generalize hz : cnt1 0 votes = mm at q3 hsum
            go_simp
            refine wp_region_quiet_lit (by kernel_rfl) (by kernel_rfl) ?_
            repeat (go_big_quiet_step (fail))
            refine wpQuiet_nil ?_
            intro _ hw'; obtain ⟨nq, hw''⟩ := hw'; subst hw''
            go_wp2_with fail
            all_goals go_ret
            all_goals (clear b0 b1 b2 q1 q2 q3; refine ⟨ret_bool ?_, below_drewN HB6.out _⟩)
            all_goals rw [HTX.out]
            · exact txe1 hlen hsum ‹(_ != _) = true›
            · exact txe2 hlen hy hsum ‹(_ != _) = false› ‹(dec == 2) = true›
            · exact txe3 hlen hy hsum ‹(_ != _) = false› ‹(dec == 3) = true›
            · exact txe4 hlen hy hnn hsum ‹(_ != _) = false› ‹(dec == 0) = true› ‹nn = 0›
            · exact txe5 hnn ‹(dec == 0) = true› ‹¬nn = 0›
            · exact txe6 ‹(dec == 2) = false› ‹(dec == 3) = false› ‹(dec == 0) = false›
  · have hno : Hid (txnB ⟨parts, votes, dec⟩ = false) := by
      show _ = _
      unfold txnB
      have : decide (votes.length = parts.length) = false := decide_eq_false (by have h1 := HN0.out; have h2 := HN1.out; omega)
      show (_ && decide (votes.length = parts.length) && _ && _) = false
      rw [this]; simp
    have hq : (!((n1 : Int) == (n0 : Int))) = true := by simp; omega
    go_wp2_with fail
    go_ret
    exact ⟨ret_bool hno.out.symm, HB1.out⟩

end Go.Proofs.Ytgbkjfhmbchiiaa

namespace Go.Proofs.Ytgbkjfhmbchiiaa
set_option linter.unusedVariables false
set_option linter.unusedSimpArgs false
open Go.RowKit

theorem run_fn1 {P : Program} {fn : FuncId} {F : Func} (h : P.funcs[fn]? = some F) (hb : F.body.isSome = true) (hn : (F.name == "runtime.NumGoroutine") = false) (args : Array Value) (w : World) : (callFunc fn args).run P w = .ok (.enter fn args) w := by
  obtain ⟨b, hb⟩ := Option.isSome_iff_exists.1 hb
  have hn' : ¬ F.name = "runtime.NumGoroutine" := by simpa using hn
  simp [callFunc, go_sem, h, hb, hn']

set_option maxHeartbeats 400000 in
theorem partAt1_any (x s : Int) (A : Option Addr) (n c : Nat) (b : Nat) (w : World) (hb : b < w.heap.size) (hc : w.cell? ⟨b, 0, none⟩ = some (.int .i64 s)) :
    Calls Try.prog 78 #[.agg #[.int .i64 x, .slice A n c], .pointer (some ⟨b, 0, none⟩)] w fun e w' => e = .returned (.bool (x == s)) ∧ Below w.heap.size w w' := by
  go_enter Try.func78, Try.ntmps78
  go_wp2
  go_ret
  exact ⟨rfl, (Below.refl _ _).alloc (Nat.le_refl _) _⟩

set_option maxRecDepth 100000 in
set_option maxHeartbeats 800000 in
theorem indexFP_any (s : Int) (gb : Nat) (ps : List PartD) (A : Option Addr) (n c : Nat) (w : World) (lo hi : Nat) (hh : hi ≤ w.heap.size) (h : D.rd w lo hi (dParts ps) (.slice A n c)) (hg : gb < w.heap.size) (hc : w.cell? ⟨gb, 0, none⟩ = some (.int .i64 s)) :
    Calls Try.prog 77 #[.slice A n c, .func (.func 78) #[] #[.pointer (some ⟨gb, 0, none⟩)]] w fun e w' => e = .returned (.int .i64 (partIx ps s)) ∧ Below w.heap.size w w' := by
  have HI := Lib.hid h
  have HN := Lib.hid h.len.1
  have hn63 : n ≤ 9223372036854775807 := by have := h.len; omega
  clear h
  go_enter Try.func77, Try.ntmps77
  go_wp2_with fail
  go_loopw [8] (fun i wr => ∃ k : Nat, k ≤ n ∧ i = .int .i64 k ∧ Hid (s ∉ (ps.map (·.shard)).take k) ∧ Below w.heap.size w wr) (fun i _ => n - (intOf i).toNat)
  case atStart => exact ⟨0, Nat.zero_le _, rfl, by show _ ∉ _; simp, Below.refl _ _⟩
  case round =>
    obtain ⟨k, hk, rfl, HX, hb⟩ := hrel
    have HB := Lib.hid hb
    have hwsz := hb.size
    clear hb
    by_cases hlt : k < n
    · obtain ⟨b, o, hl, A1, n1, c1, rfl, _, hbh, hc0, hc1, -⟩ := rd_Part (HI.out.below HB.out hh) hlt
      have hcw : wr.cell? ⟨gb, 0, none⟩ = some (.int .i64 s) := (HB.out.cell hg).trans hc
      have hgw : gb < wr.heap.size := by omega
      by_cases he : ps[k].shard = s
      · have HA := Lib.hid (partIx_at hl HX.out he)
        have hd : (ps[k].shard == s) = true := by simpa using he
        clear he
        go_wp2_with fail
        refine (partAt1_any ps[k].shard s A1 n1 c1 gb wr hgw hcw).mono ?_
        rintro e w1 ⟨rfl, hb1⟩
        have HB1 := Lib.hid (bel_tr HB.out (Nat.le_refl _) hb1)
        clear hb1
        rw [hd]
        go_wp2_with fail
        go_ret
        exact ⟨ret_int HA.out.symm, HB1.out⟩
      · have HX2 := Lib.hid (part_next hl HX.out he)
        have hd : (ps[k].shard == s) = false := by simpa using he
        clear he
        go_wp2_with fail
        refine (partAt1_any ps[k].shard s A1 n1 c1 gb wr hgw hcw).mono ?_
        rintro e w1 ⟨rfl, hb1⟩
        have HB1 := Lib.hid (bel_tr HB.out (Nat.le_refl _) hb1)
        clear hb1
        rw [hd]
        go_wp2_with fail
        exact ⟨⟨k + 1, by omega, by go_num, HX2.out, HB1.out⟩, by simp [intOf]; omega⟩
    · have hkn : k = n := by omega
      subst hkn
      have HA := Lib.hid (partIx_none HN.out.symm HX.out)
      go_wp2_with fail
      go_ret
      exact ⟨ret_int HA.out.symm, HB.out⟩

set_option maxHeartbeats 800000 in
theorem partAt_any (s : Int) (ps : List PartD) (A0 : Option Addr) (n0 c0 : Nat) (A1 : Option Addr) (n1 c1 : Nat) (dec : Int) (w : World) (lo hi : Nat) (hh : hi ≤ w.heap.size) (h : D.rd w lo hi (dParts ps) (.slice A0 n0 c0)) :
    Calls Try.prog 59 #[.agg #[.slice A0 n0 c0, .slice A1 n1 c1, .int .i64 dec], .int .i64 s] w fun e w' => e = .returned (.int .i64 (partIx ps s)) ∧ Below w.heap.size w w' := by
  have HB0 : Hid (Below w.heap.size w ((w.alloc (.cells #[.slice A0 n0 c0, .slice A1 n1 c1, .int .i64 dec] 46)).alloc (.cells #[.int .i64 s] 3))) := ((Below.refl _ _).alloc (Nat.le_refl _) _).alloc (by simp) _
  have HX0 := Lib.hid (cell_of_row _ _ 0 _ _ _ (heap_alloc_new (w.alloc (.cells #[.slice A0 n0 c0, .slice A1 n1 c1, .int .i64 dec] 46)) (.cells #[.int .i64 s] 3)))
  have HP := Lib.hid ((h.alloc hh (.cells #[.slice A0 n0 c0, .slice A1 n1 c1, .int .i64 dec] 46)).alloc (by simp; omega) (.cells #[.int .i64 s] 3))
  clear h
  go_enter Try.func59, Try.ntmps59
  go_wp2_with fail
  refine (indexFP_any s (w.heap.size + 1) ps A0 n0 c0 _ lo hi (by simp; omega) HP.out (by simp) (by have := HX0.out; simp at this ⊢)).mono ?_
  rintro e w1 ⟨rfl, hb1⟩
  have HB1 := Lib.hid (bel_tr HB0.out (Nat.le_refl _) hb1)
  clear hb1
  go_wp2_with fail
  go_ret
  exact ⟨rfl, HB1.out⟩

set_option maxHeartbeats 800000 in
theorem l22Shard_any (s : Int) (ps : List PartD) (A : Option Addr) (n c : Nat) (w : World) (lo hi : Nat) (h : D.rd w lo hi (dParts ps) (.slice A n c)) :
    Calls Try.prog 63 #[.slice A n c, .int .i64 s] w fun e w' => e = .returned (.int .i64 (partIx ps s)) ∧ w = w' := by
  have HI := Lib.hid h
  have HN := Lib.hid h.len.1
  have hn63 : n ≤ 9223372036854775807 := by have := h.len; omega
  clear h
  go_enter Try.func63, Try.ntmps63
  go_wp2_with fail
  go_loop [5] (fun i => ∃ k : Nat, k ≤ n ∧ i = .int .i64 k ∧ Hid (s ∉ (ps.map (·.shard)).take k)) (fun i => n - (intOf i).toNat)
  case atStart => exact ⟨0, Nat.zero_le _, rfl, by show _ ∉ _; simp⟩
  case round =>
    obtain ⟨k, hk, rfl, HX⟩ := hrel
    by_cases hlt : k < n
    · obtain ⟨b, o, hl, A1, n1, c1, rfl, _, hbh, hc0, hc1, -⟩ := rd_Part HI.out hlt
      by_cases he : ps[k].shard = s
      · have HA := Lib.hid (partIx_at hl HX.out he)
        rw [he] at hc0
        clear he
        go_wp2_with fail
        go_ret
        exact ⟨ret_int HA.out.symm, rfl⟩
      · have HX2 := Lib.hid (part_next hl HX.out he)
        have hd : (ps[k].shard == s) = false := by simpa using he
        clear he
        go_wp2_with fail
        go_round
        case rel => exact ⟨k + 1, by omega, by go_num, HX2.out⟩
        case measure => simp [intOf]; omega
    · have hkn : k = n := by omega
      subst hkn
      have HA := Lib.hid (partIx_none HN.out.symm HX.out)
      go_wp2_with fail
      go_ret
      exact ⟨ret_int HA.out.symm, rfl⟩

end Go.Proofs.Ytgbkjfhmbchiiaa

namespace Go.Proofs.Ytgbkjfhmbchiiaa
set_option linter.unusedVariables false
set_option linter.unusedSimpArgs false
open Go.RowKit

/-- block g holds just these ints -/
def Tab (w : World) (g : Nat) (xs : List Int) : Prop := w.heap[g]? = some (.cells (xs.map (Value.int .i64)).toArray 65 (0, 0))
theorem new_cell (w : World) (cs : Array Value) (e : TypeId) (j : Nat) : (w.alloc (.cells cs e)).cell? ⟨w.heap.size, j, none⟩ = cs[j]? := cell_of_row _ _ _ _ _ _ (heap_alloc_new w _)
theorem Tab.lt {w : World} {g : Nat} {xs : List Int} (h : Tab w g xs) : g < w.heap.size := by
  unfold Tab at h
  rcases Nat.lt_or_ge g w.heap.size with hlt | hge
  · exact hlt
  · rw [Array.getElem?_eq_none hge] at h; cases h
theorem Tab.grown {w w' : World} {g : Nat} {xs : List Int} {row : Option Nat} (h : Tab w g xs) (hg : w.grownBy w' row) (hr : row ≠ some g) : Tab w' g xs :=
  (hg.block g h.lt (fun e => hr e.symm)).trans h
theorem Tab.alloc {w : World} {g : Nat} {xs : List Int} (h : Tab w g xs) (o : Obj) : Tab (w.alloc o) g xs := h.grown (World.grownBy_alloc w o none) (by simp)
theorem Tab.drewN {w : World} {g : Nat} {xs : List Int} (h : Tab w g xs) (n : Nat) : Tab (w.drewN n) g xs := h
theorem Tab.cell {w : World} {g : Nat} {xs : List Int} (h : Tab w g xs) {r : Int} (hl : xs.length = 4) (h0 : 0 ≤ r) (h3 : r ≤ 3) :
    w.cell? ⟨g, r.toNat, none⟩ = some (.int .i64 (getR xs r)) ∧ w.frozen? ⟨g, r.toNat, none⟩ = false := by
  refine ⟨?_, frozen_of_row w g _ _ _ h⟩
  rw [cell_of_row w g r.toNat _ _ _ h]
  unfold getR
  have : r.toNat < xs.length := by omega
  simp [this]
theorem Tab.set {w : World} {g : Nat} {xs : List Int} (h : Tab w g xs) (r : Int) (x : Int) : Tab (w.setCell ⟨g, r.toNat, none⟩ (.int .i64 x)) g (xs.set r.toNat x) := by
  unfold Tab
  rw [heap_setCell_same w g r.toNat _ _ _ h]
  simp [List.map_set]
theorem grown_alloc' {a b : World} {row : Option Nat} (h : a.grownBy b row) (o : Obj) : a.grownBy (b.alloc o) row :=
  ⟨h.os, h.tape, h.output, Nat.le_trans h.size (by simp), fun i hi hne => (Below.heap_alloc b o i (Nat.lt_of_lt_of_le hi h.size)).trans (h.block i hi hne)⟩
theorem grown_set {a b : World} {g : Nat} (h : a.grownBy b (some g)) (j : Nat) (u : Value) : a.grownBy (b.setCell ⟨g, j, none⟩ u).drew (some g) :=
  ⟨h.os, h.tape, h.output, by simpa [World.setCell] using h.size, fun i hi hne => (Below.heap_setCell b _ u i (fun e => hne (by rw [e]))).trans (h.block i hi hne)⟩
theorem Tab.own {w : World} {base g : Nat} {xs : List Int} (h : Tab w g xs) (hb : base ≤ g) (hl : xs.length = 4) : w.ownsRow base 65 1 (.slice (some ⟨g, 0, none⟩) 4 4) 4 (xs.flatMap ci) := by
  refine ⟨by rw [flat_ci, List.length_map, hl], .inr ⟨g, 4, _, rfl, hb, h, Nat.le_refl _, by unfold maxLen; omega, by simp [hl], ?_⟩⟩
  rw [flat_ci]
  simp only [Nat.mul_one]
  exact List.take_of_length_le (by rw [List.length_map, hl]; exact Nat.le_refl _)

set_option maxRecDepth 100000 in
set_option maxHeartbeats 800000 in
theorem set_any (g : Nat) (A : Option Addr) (n c : Nat) (us : List Upd) (xs : List Int) (w : World) (lo hi : Nat) (hg : hi ≤ g) (hn : n ≤ 9223372036854775807) (hl : xs.length = 4) (hr : ∀ u ∈ us, 0 ≤ u.ref ∧ u.ref ≤ 3) (ht : Tab w g xs) (h : Fl cu w lo hi A n us) :
    Calls Try.prog 60 #[.pointer (some ⟨g, 0, none⟩), .slice A n c] w fun e w' => e = .returned (.tuple #[]) ∧ Tab w' g (setR xs us) ∧ w.grownBy w' (some g) := by
  have HI := Lib.hid h
  have HR := Lib.hid hr
  have hgl := ht.lt
  have HT0 := Lib.hid ht
  clear h hr ht
  go_enter Try.func60, Try.ntmps60
  go_wp2_with fail
  go_loopw [8] (fun i wr => ∃ k : Nat, k ≤ n ∧ i = .int .i64 k ∧ Tab wr g (setR xs (us.take k)) ∧ w.grownBy wr (some g)) (fun i _ => n - (intOf i).toNat)
  case atStart => exact ⟨0, Nat.zero_le _, rfl, HT0.out, World.grownBy.refl w _⟩
  case round =>
    obtain ⟨k, hk, rfl, ht, hb⟩ := hrel
    have HT := Lib.hid ht
    have HB := Lib.hid hb
    have hwsz := hb.size
    have hgr := ht.lt
    clear ht hb
    by_cases hlt : k < n
    · obtain ⟨b, o, hll, rfl, _, hbh, hc0, hc1, hc2⟩ := fl_upd (HI.out.grown HB.out (by omega) (fun q hq => by injection hq with hq; omega)) hlt
      have hru := HR.out us[k] (List.getElem_mem hll)
      have hr0 := hru.1
      have hr3 := hru.2
      clear hru
      have hlk : (setR xs (us.take k)).length = 4 := by rw [setR_len]; exact hl
      have hcell := fun ob : Obj => (HT.out.alloc ob).cell hlk hr0 hr3
      have hst := fun ob : Obj => (HT.out.alloc ob).drewN 1 |>.set us[k].ref us[k].new_
      rw [show (setR xs (us.take k)).set us[k].ref.toNat us[k].new_ = setR xs (us.take (k + 1)) from by rw [List.take_succ_eq_append_getElem hll]; unfold setR; rw [List.foldl_append]; rfl] at hst
      obtain ⟨q, hq⟩ := Int.eq_ofNat_of_zero_le hr0
      rw [hq] at hcell hst hc0 hr3
      have hq3 : q ≤ 3 := by omega
      have hq4 : (q : Int) < 4 := by omega
      clear hq hr3 hr0
      go_wp2_with fail
      have f0 := new_cell wr #[.int .i64 q, .int .i64 us[k].old, .int .i64 us[k].new_] 88 0
      have f2 := new_cell wr #[.int .i64 q, .int .i64 us[k].old, .int .i64 us[k].new_] 88 2
      have hc := hcell (.cells #[.int .i64 q, .int .i64 us[k].old, .int .i64 us[k].new_] 88)
      have hst2 := hst (.cells #[.int .i64 q, .int .i64 us[k].old, .int .i64 us[k].new_] 88)
      have hgw := grown_alloc' HB.out (.cells #[.int .i64 q, .int .i64 us[k].old, .int .i64 us[k].new_] 88)
      clear hcell hst
      generalize wr.alloc (.cells #[.int .i64 q, .int .i64 us[k].old, .int .i64 us[k].new_] 88) = W at *
      have f0' : W.cell? ⟨wr.heap.size, 0, none⟩ = some (.int .i64 q) := f0
      have f2' : W.cell? ⟨wr.heap.size, 2, none⟩ = some (.int .i64 us[k].new_) := f2
      have hcl : W.cell? ⟨g, q, none⟩ = some (.int .i64 (getR (setR xs (us.take k)) q)) := hc.1
      have hfz : W.frozen? ⟨g, q, none⟩ = false := hc.2
      have HST : Hid (Tab ((W.drewN 1).setCell ⟨g, q, none⟩ (.int .i64 us[k].new_)) g (setR xs (us.take (k + 1)))) := hst2
      have HGW := Lib.hid hgw
      clear f0 f2 hc hst2 hgw
      go_still_tail 7, (by kernel_rfl)
      change wpList _ _ _ _ _ W.drew
      go_wp2_with fail
      exact ⟨⟨k + 1, by omega, by go_num, HST.out, (grown_set HGW.out q _)⟩, by simp [intOf]; omega⟩
    · have hkn : k = n := by omega
      subst hkn
      go_wp2_with fail
      go_end0
      refine ⟨rfl, ?_, HB.out⟩
      have := HT.out
      rwa [List.take_of_length_le (by rw [HI.out.1]; exact Nat.le_refl _)] at this

/-- refs behind updates that were tried -/
def appR (xs : List Int) (us : List Upd) : List Int := if fitsR xs us = true then setR xs us else xs
theorem appR_yes {xs : List Int} {us : List Upd} (h : fitsR xs us = true) : appR xs us = setR xs us := by unfold appR; rw [if_pos h]
theorem appR_no {xs : List Int} {us : List Upd} (h : fitsR xs us = false) : appR xs us = xs := by unfold appR; rw [h]; rfl
theorem fits_take_succ {xs : List Int} {us : List Upd} {k : Nat} (hk : k < us.length) (h : fitsR xs (us.take k) = true) (hu : getR xs us[k].ref = us[k].old) : fitsR xs (us.take (k + 1)) = true := by
  unfold fitsR at h ⊢
  rw [List.take_succ_eq_append_getElem hk, List.all_append, h]
  simp [hu]
theorem fits_at {xs : List Int} {us : List Upd} {k : Nat} (hk : k < us.length) (hu : ¬ getR xs us[k].ref = us[k].old) : fitsR xs us = false := by
  rw [← Bool.not_eq_true]
  intro h
  exact hu ((fitsR_iff xs us).1 h _ (List.getElem_mem hk))

end Go.Proofs.Ytgbkjfhmbchiiaa

namespace Go.Proofs.Ytgbkjfhmbchiiaa
set_option linter.unusedVariables false
set_option linter.unusedSimpArgs false
open Go.RowKit

theorem snoc_ind {α : Type} {motive : List α → Prop} (l : List α) (nil : motive []) (snoc : ∀ (l : List α) (a : α), motive l → motive (l ++ [a])) : motive l := by
  have h : ∀ r : List α, motive r.reverse := by
    intro r
    induction r with
    | nil => exact nil
    | cons a r ih => rw [List.reverse_cons]; exact snoc _ _ ih
  have := h l.reverse
  rwa [List.reverse_reverse] at this

structure Rec where
  kind : Int
  txn : Int
  us : List Upd
  deriving DecidableEq

def txB (t : Int) : Bool := inR t 0 11
theorem txB_iff (t : Int) : txB t = true ↔ 0 ≤ t ∧ t ≤ 11 := inR_iff _ _ _
/-- the last record of a transaction -/
def lastRc (rs : List Rec) (t : Int) : Option Rec := rs.foldl (fun o r => if r.txn = t then some r else o) none
theorem lastRc_nil (t : Int) : lastRc [] t = none := rfl
theorem lastRc_snoc (rs : List Rec) (r : Rec) (t : Int) : lastRc (rs ++ [r]) t = if r.txn = t then some r else lastRc rs t := by
  unfold lastRc; rw [List.foldl_append]; rfl
theorem lastRc_mem {rs : List Rec} {t : Int} {r : Rec} (h : lastRc rs t = some r) : r ∈ rs ∧ r.txn = t := by
  induction rs using snoc_ind with
  | nil => cases h
  | snoc rs x ih =>
    rw [lastRc_snoc] at h
    by_cases hx : x.txn = t
    · rw [if_pos hx] at h; injection h with h; subst h; exact ⟨by simp, hx⟩
    · rw [if_neg hx] at h; have := ih h; exact ⟨by simp [this.1], this.2⟩
theorem lastRc_none {rs : List Rec} {t : Int} (h : lastRc rs t = none) : ∀ r ∈ rs, r.txn ≠ t := by
  induction rs using snoc_ind with
  | nil => intro r hr; cases hr
  | snoc rs x ih =>
    rw [lastRc_snoc] at h
    by_cases hx : x.txn = t
    · rw [if_pos hx] at h; cases h
    · rw [if_neg hx] at h
      intro r hr
      rcases List.mem_append.1 hr with hr | hr
      · exact ih h r hr
      · rw [List.mem_singleton] at hr; subst hr; exact hx
def kindO (o : Option Rec) : Int := match o with | some r => r.kind | none => 0
def askK (rs : List Rec) (t : Int) : Int := kindO (lastRc rs t)
/-- the updates of the first record that votes for a transaction -/
def prepU (rs : List Rec) (t : Int) : List Upd := match rs.find? (fun r => decide (r.txn = t) && decide (r.kind = 1)) with | some r => r.us | none => []

structure St where
  refs : List Int
  locks : List Int
def st0 : St := ⟨[-1, -1, -1, -1], [-1, -1, -1, -1]⟩
def lockFit (locks : List Int) (us : List Upd) : Bool := us.all fun u => decide (getR locks u.ref = -1)
def lockSet (locks : List Int) (t : Int) (us : List Upd) : List Int := us.foldl (fun l u => l.set u.ref.toNat t) locks
def freeL (locks : List Int) (t : Int) : List Int := locks.map fun n => if n = t then -1 else n
/-- whether a record may follow on others -/
def stepB (rs : List Rec) (s : St) (r : Rec) : Bool :=
  txB r.txn &&
  if r.kind = 1 then decide (askK rs r.txn = 0) && updsB r.us && fitsR s.refs r.us && lockFit s.locks r.us
  else if r.kind = 2 then decide (askK rs r.txn = 1) && decide (r.us = [])
  else if r.kind = 3 then (decide (askK rs r.txn = 0) || decide (askK rs r.txn = 1)) && decide (r.us = [])
  else false
/-- the state behind it -/
def stepS (rs : List Rec) (s : St) (r : Rec) : St :=
  if r.kind = 1 then ⟨s.refs, lockSet s.locks r.txn r.us⟩
  else if r.kind = 2 then ⟨setR s.refs (prepU rs r.txn), freeL s.locks r.txn⟩
  else ⟨s.refs, freeL s.locks r.txn⟩
def runS : List Rec → St → List Rec → St × Bool
  | _, s, [] => (s, true)
  | d, s, r :: l => if stepB d s r = true then runS (d ++ [r]) (stepS d s r) l else (s, false)
def recov (rs : List Rec) : St × Bool := runS [] st0 rs
def shardB (rs : List Rec) : Bool := (recov rs).2 && decide (rs.length ≤ 30)

/-- what ShardAsk answers -/
def askV (rs : List Rec) (t : Int) : Int := if shardB rs = true ∧ txB t = true then askK rs t else -1
theorem askV_no {rs : List Rec} {t : Int} (h : shardB rs = false ∨ txB t = false) : askV rs t = -1 := by
  unfold askV; rw [if_neg]; rintro ⟨h1, h2⟩; rcases h with h | h <;> simp_all
theorem askV_yes {rs : List Rec} {t : Int} (h1 : shardB rs = true) (h2 : txB t = true) : askV rs t = askK rs t := by unfold askV; rw [if_pos ⟨h1, h2⟩]

theorem runS_snoc (l : List Rec) (r : Rec) : ∀ (d : List Rec) (s : St), runS d s (l ++ [r]) =
    if (runS d s l).2 = true then (if stepB (d ++ l) (runS d s l).1 r = true then (stepS (d ++ l) (runS d s l).1 r, true) else ((runS d s l).1, false)) else runS d s l := by
  induction l with
  | nil => intro d s; simp [runS]
  | cons x l ih =>
    intro d s
    rw [List.cons_append]
    by_cases hx : stepB d s x = true
    · simp only [runS, if_pos hx]
      rw [ih, List.append_assoc, List.singleton_append]
    · simp only [runS, if_neg hx]
      simp
theorem recov_snoc (l : List Rec) (r : Rec) : recov (l ++ [r]) = if (recov l).2 = true then (if stepB l (recov l).1 r = true then (stepS l (recov l).1 r, true) else ((recov l).1, false)) else recov l := by
  have := runS_snoc l r [] st0
  rw [List.nil_append] at this
  exact this
/-- records that may follow on one another -/
inductive Hist : List Rec → St → Prop
  | nil : Hist [] st0
  | snoc {rs : List Rec} {s : St} {r : Rec} : Hist rs s → stepB rs s r = true → Hist (rs ++ [r]) (stepS rs s r)
theorem Hist.eq {rs : List Rec} {s : St} (h : Hist rs s) : recov rs = (s, true) := by
  induction h with
  | nil => rfl
  | snoc h1 h2 ih => rw [recov_snoc, ih]; simp [h2]
theorem hist_of {rs : List Rec} (h : (recov rs).2 = true) : Hist rs (recov rs).1 := by
  induction rs using snoc_ind with
  | nil => exact Hist.nil
  | snoc rs r ih =>
    rw [recov_snoc] at h ⊢
    by_cases h1 : (recov rs).2 = true
    · rw [if_pos h1] at h ⊢
      by_cases h2 : stepB rs (recov rs).1 r = true
      · rw [if_pos h2]; exact (ih h1).snoc h2
      · rw [if_neg h2] at h; cases h
    · rw [if_neg h1] at h; exact absurd h h1
theorem recov_take {rs : List Rec} (h : (recov rs).2 = true) (k : Nat) : (recov (rs.take k)).2 = true := by
  induction rs using snoc_ind with
  | nil => simpa using h
  | snoc rs r ih =>
    have h1 : (recov rs).2 = true := by
      rw [recov_snoc] at h
      by_cases h1 : (recov rs).2 = true
      · exact h1
      · rw [if_neg h1] at h; exact absurd h h1
    by_cases hk : k ≤ rs.length
    · rw [List.take_append_of_le_length hk]; exact ih h1
    · rw [List.take_of_length_le (by simp; omega)]; exact h

theorem stepB_iff (rs : List Rec) (s : St) (r : Rec) : stepB rs s r = true ↔ txB r.txn = true ∧
    ((r.kind = 1 ∧ askK rs r.txn = 0 ∧ updsB r.us = true ∧ fitsR s.refs r.us = true ∧ lockFit s.locks r.us = true) ∨
     (r.kind = 2 ∧ askK rs r.txn = 1 ∧ r.us = []) ∨ (r.kind = 3 ∧ (askK rs r.txn = 0 ∨ askK rs r.txn = 1) ∧ r.us = [])) := by
  unfold stepB
  rw [Bool.and_eq_true]
  refine and_congr_right fun _ => ?_
  by_cases h1 : r.kind = 1
  · rw [if_pos h1]; simp [h1, and_assoc]
  · rw [if_neg h1]
    by_cases h2 : r.kind = 2
    · rw [if_pos h2]; simp [h2]
    · rw [if_neg h2]
      by_cases h3 : r.kind = 3
      · rw [if_pos h3]; simp [h3]
      · rw [if_neg h3]; simp [h1, h2, h3]

theorem lockSet_len (us : List Upd) (t : Int) : ∀ xs : List Int, (lockSet xs t us).length = xs.length := by
  unfold lockSet
  induction us with
  | nil => intro xs; rfl
  | cons u us ih => intro xs; rw [List.foldl_cons, ih, List.length_set]
theorem getR_lockSet {us : List Upd} {t : Int} : ∀ {lo : Int} {xs : List Int} {r : Int}, Asc lo us → 0 ≤ lo → xs.length = 4 → 0 ≤ r → getR (lockSet xs t us) r = match look us r with | some _ => t | none => getR xs r := by
  induction us with
  | nil => intro lo xs r _ _ _ _; rfl
  | cons v us ih =>
    intro lo xs r h h0 hl hr
    obtain ⟨h1, h2, h3⟩ := h
    have hv := ((uokB_iff v).1 h1).1
    have e : lockSet xs t (v :: us) = lockSet (xs.set v.ref.toNat t) t us := rfl
    rw [e, ih h3 (by omega) (by rw [List.length_set]; exact hl) hr, getR_set _ hr hv.1 (by omega)]
    by_cases hrv : v.ref = r
    · rw [look_none h3 (by omega), if_pos hrv]
      unfold look; rw [List.find?_cons_of_pos (by simp [hrv])]
    · rw [if_neg hrv]
      have : look (v :: us) r = look us r := by unfold look; rw [List.find?_cons_of_neg (by simp [hrv])]
      rw [this]
theorem getR_freeL {xs : List Int} {t r : Int} (hl : xs.length = 4) (h0 : 0 ≤ r) (h3 : r ≤ 3) : getR (freeL xs t) r = if getR xs r = t then -1 else getR xs r := by
  unfold getR freeL
  rw [List.getD_eq_getElem?_getD, List.getD_eq_getElem?_getD, List.getElem?_map, List.getElem?_eq_getElem (by omega)]
  rfl
theorem freeL_len (xs : List Int) (t : Int) : (freeL xs t).length = xs.length := by unfold freeL; rw [List.length_map]

/-- what holds behind records that may follow on one another -/
structure Inv (rs : List Rec) (s : St) : Prop where
  refs : refsB s.refs = true
  llen : s.locks.length = 4
  rec_ : ∀ r ∈ rs, txB r.txn = true ∧ (r.kind = 1 ∧ updsB r.us = true ∨ (r.kind = 2 ∨ r.kind = 3) ∧ r.us = [])
  prep : ∀ t r, lastRc rs t = some r → r.kind = 1 → prepU rs t = r.us ∧ fitsR s.refs r.us = true
  lock : ∀ x : Int, 0 ≤ x → x ≤ 3 → (getR s.locks x = -1 ∨ txB (getR s.locks x) = true) ∧ ∀ t : Int, 0 ≤ t → (getR s.locks x = t ↔ ∃ r, lastRc rs t = some r ∧ r.kind = 1 ∧ (look r.us x).isSome = true)

theorem prepU_snoc_ne {rs : List Rec} {r : Rec} {t : Int} (h : r.txn ≠ t ∨ r.kind ≠ 1) : prepU (rs ++ [r]) t = prepU rs t := by
  unfold prepU
  rw [List.find?_append]
  have : List.find? (fun r => decide (r.txn = t) && decide (r.kind = 1)) [r] = none := by
    rw [List.find?_cons_of_neg]
    · rfl
    · rcases h with h | h <;> simp [h]
  rw [this, Option.or_none]
theorem prepU_snoc_new {rs : List Rec} {r : Rec} (h : lastRc rs r.txn = none) (h1 : r.kind = 1) : prepU (rs ++ [r]) r.txn = r.us := by
  unfold prepU
  rw [List.find?_append]
  have h0 : List.find? (fun x => decide (x.txn = r.txn) && decide (x.kind = 1)) rs = none := by
    rw [List.find?_eq_none]
    intro x hx
    have := lastRc_none h x hx
    simp [this]
  rw [h0, Option.none_or, List.find?_cons_of_pos (by simp [h1])]

theorem look_ref {us : List Upd} {r : Int} (h : (look us r).isSome = true) : ∃ u ∈ us, u.ref = r := by
  obtain ⟨u, hu⟩ := Option.isSome_iff_exists.1 h
  exact ⟨u, look_some hu⟩
theorem fits_other {xs : List Int} {us vs : List Upd} (hl : xs.length = 4) (hu : Asc 0 us) (hv : Asc 0 vs) (h : ∀ u ∈ us, ∀ v ∈ vs, u.ref ≠ v.ref) (hf : fitsR xs vs = true) : fitsR (setR xs us) vs = true := by
  rw [fits_apart hl hu hv h]; exact hf

/-- what locks are behind a decision -/
theorem inv_free {rs : List Rec} {s : St} {r : Rec} (I : Inv rs s) (htx : txB r.txn = true) {x : Int} (h0 : 0 ≤ x) (h3 : x ≤ 3) (hk : r.kind = 2 ∨ r.kind = 3) :
    (getR (freeL s.locks r.txn) x = -1 ∨ txB (getR (freeL s.locks r.txn) x) = true) ∧ ∀ t : Int, 0 ≤ t → (getR (freeL s.locks r.txn) x = t ↔ ∃ q, lastRc (rs ++ [r]) t = some q ∧ q.kind = 1 ∧ (look q.us x).isSome = true) := by
  have hL := I.lock x h0 h3
  have htx' := (txB_iff _).1 htx
  rw [getR_freeL I.llen h0 h3]
  by_cases e : getR s.locks x = r.txn
  · rw [if_pos e]
    refine ⟨.inl rfl, fun t ht => ⟨fun h => by omega, ?_⟩⟩
    rintro ⟨q, hq, hqk, hs⟩
    exfalso
    rw [lastRc_snoc] at hq
    by_cases et : r.txn = t
    · rw [if_pos et] at hq; injection hq with hq; subst hq; omega
    · rw [if_neg et] at hq
      have := (hL.2 t ht).2 ⟨q, hq, hqk, hs⟩
      exact et (e.symm.trans this)
  · rw [if_neg e]
    refine ⟨hL.1, fun t ht => ?_⟩
    rw [lastRc_snoc]
    by_cases et : r.txn = t
    · rw [if_pos et]
      constructor
      · intro h; exact absurd (h.trans et.symm) e
      · rintro ⟨q, hq, hqk, _⟩; injection hq with hq; subst hq; omega
    · rw [if_neg et]; exact hL.2 t ht

theorem Hist.inv {rs : List Rec} {s : St} (h : Hist rs s) : Inv rs s := by
  induction h with
  | nil =>
    refine ⟨by decide, rfl, (fun r hr => by cases hr), (fun t r h => by cases h), fun x h0 h3 => ⟨.inl ?_, fun t ht => ?_⟩⟩
    · have hx : x = 0 ∨ x = 1 ∨ x = 2 ∨ x = 3 := by omega
      rcases hx with rfl | rfl | rfl | rfl <;> rfl
    · have hx : x = 0 ∨ x = 1 ∨ x = 2 ∨ x = 3 := by omega
      have hg : getR st0.locks x = -1 := by rcases hx with rfl | rfl | rfl | rfl <;> rfl
      rw [hg]
      exact ⟨fun h => by omega, fun ⟨r, hr, _⟩ => by cases hr⟩
  | @snoc rs s r h1 h2 I =>
    obtain ⟨htx, hcase⟩ := (stepB_iff rs s r).1 h2
    have htx' := (txB_iff _).1 htx
    have hrl := ((refsB_iff s.refs).1 I.refs).1
    rcases hcase with ⟨hk, hask, hupd, hfit, hlf⟩ | ⟨hk, hask, hus⟩ | ⟨hk, hask, hus⟩
    · -- a vote
      have hst : stepS rs s r = ⟨s.refs, lockSet s.locks r.txn r.us⟩ := by unfold stepS; rw [if_pos hk]
      have hA := (updsB_asc hupd).1
      have hnone : lastRc rs r.txn = none := by
        rcases hl : lastRc rs r.txn with _ | q
        · rfl
        · exfalso
          have hq := lastRc_mem hl
          have := I.rec_ q hq.1
          unfold askK at hask; rw [hl] at hask
          have : q.kind = 0 := hask
          omega
      rw [hst]
      refine ⟨I.refs, by rw [lockSet_len]; exact I.llen, fun x hx => ?_, fun t q hq hqk => ?_, fun x h0 h3 => ?_⟩
      · rcases List.mem_append.1 hx with hx | hx
        · exact I.rec_ x hx
        · rw [List.mem_singleton] at hx; subst hx; exact ⟨htx, .inl ⟨hk, hupd⟩⟩
      · rw [lastRc_snoc] at hq
        by_cases ht : r.txn = t
        · rw [if_pos ht] at hq; injection hq with hq; subst hq; subst ht
          exact ⟨prepU_snoc_new hnone hk, hfit⟩
        · rw [if_neg ht] at hq
          rw [prepU_snoc_ne (.inl ht)]
          exact I.prep t q hq hqk
      · have hgl := getR_lockSet (t := r.txn) hA (Int.le_refl 0) I.llen h0
        have hL := I.lock x h0 h3
        rcases hlk : look r.us x with _ | u
        · rw [hlk] at hgl
          simp only at hgl
          refine ⟨by rw [hgl]; exact hL.1, fun t ht => ?_⟩
          rw [hgl, hL.2 t ht]
          by_cases e : r.txn = t
          · subst e
            rw [lastRc_snoc, if_pos rfl]
            constructor
            · rintro ⟨q, hq, _⟩; rw [hnone] at hq; cases hq
            · rintro ⟨q, hq, _, hs⟩; injection hq with hq; subst hq; rw [hlk] at hs; cases hs
          · rw [lastRc_snoc, if_neg e]
        · rw [hlk] at hgl
          simp only at hgl
          have hum := look_some hlk
          refine ⟨.inr (by rw [hgl]; exact htx), fun t ht => ?_⟩
          rw [hgl]
          by_cases e : r.txn = t
          · subst e
            rw [lastRc_snoc, if_pos rfl]
            exact ⟨fun _ => ⟨r, rfl, hk, by rw [hlk]; rfl⟩, fun _ => rfl⟩
          · rw [lastRc_snoc, if_neg e]
            refine ⟨fun h => absurd h e, fun hq => ?_⟩
            exfalso
            have h4 := (hL.2 t ht).2 hq
            have h5 := List.all_eq_true.1 hlf u hum.1
            rw [hum.2] at h5
            simp only [decide_eq_true_eq] at h5
            omega
    · -- a commit
      have hk1 : ¬ r.kind = 1 := by omega
      have hst : stepS rs s r = ⟨setR s.refs (prepU rs r.txn), freeL s.locks r.txn⟩ := by unfold stepS; rw [if_neg hk1, if_pos hk]
      obtain ⟨q, hq, hqk⟩ : ∃ q, lastRc rs r.txn = some q ∧ q.kind = 1 := by
        rcases hl : lastRc rs r.txn with _ | q
        · unfold askK at hask; rw [hl] at hask; exact absurd hask (by decide)
        · unfold askK at hask; rw [hl] at hask; exact ⟨q, rfl, hask⟩
      have hP := I.prep _ q hq hqk
      have hqu : updsB q.us = true := by
        rcases (I.rec_ q (lastRc_mem hq).1).2 with h | h
        · exact h.2
        · omega
      have hA := (updsB_asc hqu).1
      rw [hst, hP.1]
      refine ⟨refsB_setR I.refs hA, by rw [freeL_len]; exact I.llen, fun x hx => ?_, fun t p hp hpk => ?_, fun x h0 h3 => ?_⟩
      · rcases List.mem_append.1 hx with hx | hx
        · exact I.rec_ x hx
        · rw [List.mem_singleton] at hx; subst hx; exact ⟨htx, .inr ⟨.inl hk, hus⟩⟩
      · rw [lastRc_snoc] at hp
        by_cases ht : r.txn = t
        · rw [if_pos ht] at hp; injection hp with hp; subst hp; omega
        · rw [if_neg ht] at hp
          rw [prepU_snoc_ne (.inl ht)]
          have hPp := I.prep t p hp hpk
          have hpu : updsB p.us = true := by
            rcases (I.rec_ p (lastRc_mem hp).1).2 with h | h
            · exact h.2
            · omega
          have hAp := (updsB_asc hpu).1
          refine ⟨hPp.1, fits_other hrl hA hAp (fun u hu v hv e => ?_) hPp.2⟩
          have hur := ((uokB_iff u).1 (hA.mem u hu).1).1
          have htt : 0 ≤ t := by
            have := (txB_iff _).1 (I.rec_ p (lastRc_mem hp).1).1
            rw [(lastRc_mem hp).2] at this; exact this.1
          have h1 := ((I.lock u.ref hur.1 hur.2).2 r.txn htx'.1).2 ⟨q, hq, hqk, by rw [look_mem hA hu]; rfl⟩
          have h2 := ((I.lock u.ref hur.1 hur.2).2 t htt).2 ⟨p, hp, hpk, by rw [e, look_mem hAp hv]; rfl⟩
          exact ht (h1.symm.trans h2)
      · exact inv_free I htx h0 h3 (.inl hk)
    · -- an abort
      have hk1 : ¬ r.kind = 1 := by omega
      have hk2 : ¬ r.kind = 2 := by omega
      have hst : stepS rs s r = ⟨s.refs, freeL s.locks r.txn⟩ := by unfold stepS; rw [if_neg hk1, if_neg hk2]
      rw [hst]
      refine ⟨I.refs, by rw [freeL_len]; exact I.llen, fun x hx => ?_, fun t p hp hpk => ?_, fun x h0 h3 => ?_⟩
      · rcases List.mem_append.1 hx with hx | hx
        · exact I.rec_ x hx
        · rw [List.mem_singleton] at hx; subst hx; exact ⟨htx, .inr ⟨.inr hk, hus⟩⟩
      · rw [lastRc_snoc] at hp
        by_cases ht : r.txn = t
        · rw [if_pos ht] at hp; injection hp with hp; subst hp; omega
        · rw [if_neg ht] at hp
          rw [prepU_snoc_ne (.inl ht)]
          exact I.prep t p hp hpk
      · exact inv_free I htx h0 h3 (.inr hk)

end Go.Proofs.Ytgbkjfhmbchiiaa
