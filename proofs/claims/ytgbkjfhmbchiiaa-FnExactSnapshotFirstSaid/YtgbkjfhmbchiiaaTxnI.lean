/-
  The walk of the program's Txn.ok: whether a transaction is valid: its votes go through a channel and are counted in a map. Condition: lengths fit an int64, the votes are ints.
-/
import Derived.Test.YtgbkjfhmbchiiaaCoordI
import Derived.Test.YtgbkjfhmbchiiaaChan
import Derived.Test.YtgbkjfhmbchiiaaMapI
import Derived.Test.YtgbkjfhmbchiiaaTTxn
import Derived.BigQuiet
namespace Go.Proofs.Ytgbkjfhmbchiiaa
set_option linter.unusedVariables false
set_option linter.unusedSimpArgs false
open Go.RowKit Go.Conc

theorem Try.bytesInt : ∃ i, Try.prog.info? 3 = some i ∧ i.bytes = 8 := by
  have h : (Try.prog.info? 3).map (·.bytes) = some 8 := by kernel_rfl
  obtain ⟨i, hi, hb⟩ := Option.map_eq_some_iff.1 h
  exact ⟨i, hi, hb⟩
theorem hlt_of {w : World} {g : Nat} {o : Obj} (h : w.heap[g]? = some o) : g < w.heap.size := by
  rcases Nat.lt_or_ge g w.heap.size with hlt | hge
  · exact hlt
  · rw [Array.getElem?_eq_none hge] at h; cases h
theorem mk_chan (w : World) (n : Nat) (hn : n ≤ 3) : (Instr.makeChan 94 (.int .i64 (n : Int))).run Try.prog w = .ok (.chan (some w.heap.size)) (w.alloc (.chan n #[] false 0 0 false)) := by
  obtain ⟨i, hi, hb⟩ := Try.bytesInt
  simpa using run_makeChan (P := Try.prog) (w := w) Try.underlying94 hi .i64 n (by omega) (by rw [hb]; omega)

/-- the first k votes lie in the channel's buffer -/
def bufTo (votes : List Int) (k : Nat) : Array Value := ((votes.take k).map (Value.int .i64)).toArray
theorem bufTo_size {votes : List Int} {k : Nat} (h : k ≤ votes.length) : (bufTo votes k).size = k := by unfold bufTo; simp; omega
theorem bufTo_push {votes : List Int} {k : Nat} (h : k < votes.length) : (bufTo votes k).push (.int .i64 votes[k]) = bufTo votes (k + 1) := by
  unfold bufTo
  rw [List.take_succ_eq_append_getElem h, List.map_append, List.push_toArray]
  rfl

/-- the votes from the j-th on lie in the channel's buffer -/
def bufFrom (votes : List Int) (j : Nat) : Array Value := ((votes.drop j).map (Value.int .i64)).toArray
theorem bufFrom_size (votes : List Int) (j : Nat) : (bufFrom votes j).size = votes.length - j := by unfold bufFrom; simp
theorem bufTo_all (votes : List Int) : bufTo votes votes.length = bufFrom votes 0 := by unfold bufTo bufFrom; simp
theorem bufFrom_get {votes : List Int} {j : Nat} (h : j < votes.length) : (bufFrom votes j).getD 0 undef = .int .i64 votes[j] := by
  unfold bufFrom
  rw [List.drop_eq_getElem_cons h]
  rfl
theorem bufFrom_next {votes : List Int} {j : Nat} (h : j < votes.length) : (bufFrom votes j).extract 1 (bufFrom votes j).size = bufFrom votes (j + 1) := by
  rw [bufFrom_size]
  unfold bufFrom
  rw [List.drop_eq_getElem_cons h]
  apply Array.ext'
  simp
  rw [List.take_of_length_le (by simp; omega)]
theorem bufFrom_nil {votes : List Int} {j : Nat} (h : votes.length ≤ j) : bufFrom votes j = #[] := by
  unfold bufFrom
  rw [List.drop_eq_nil_of_le h]
  rfl
section
variable {votes : List Int} {dec : Int} {j y nn mm : Nat}
theorem txe1 (hl : votes.length = j) (hs : y + nn + mm ≤ votes.length ∧ (y + nn + mm = votes.length ↔ votes.all voteB = true)) (h : ((y : Int) + nn + mm != j) = true) : false = (votes.all voteB && decB dec votes) := by
  have : votes.all voteB = false := by
    rcases e : votes.all voteB with _ | _
    · rfl
    · have := hs.2.2 e; simp at h; omega
  rw [this]; rfl
theorem tx_all (hl : votes.length = j) (hs : y + nn + mm ≤ votes.length ∧ (y + nn + mm = votes.length ↔ votes.all voteB = true)) (h : ((y : Int) + nn + mm != j) = false) : votes.all voteB = true := hs.2.1 (by simp at h; omega)
theorem txe2 (hl : votes.length = j) (hy : cnt1 1 votes = y) (hs : y + nn + mm ≤ votes.length ∧ (y + nn + mm = votes.length ↔ votes.all voteB = true)) (h : ((y : Int) + nn + mm != j) = false) (hd : (dec == 2) = true) : ((y : Int) == (j : Int)) = (votes.all voteB && decB dec votes) := by
  have hd : dec = 2 := by simpa using hd
  rw [tx_all hl hs h]; unfold decB; rw [if_pos hd, hy, hl, Bool.true_and, Bool.eq_iff_iff]; simp; omega
theorem txe3 (hl : votes.length = j) (hy : cnt1 1 votes = y) (hs : y + nn + mm ≤ votes.length ∧ (y + nn + mm = votes.length ↔ votes.all voteB = true)) (h : ((y : Int) + nn + mm != j) = false) (hd : (dec == 3) = true) : decide (y < j) = (votes.all voteB && decB dec votes) := by
  have hd : dec = 3 := by simpa using hd
  rw [tx_all hl hs h]; unfold decB; rw [if_neg (by omega), if_pos hd, hy, hl, Bool.true_and]
theorem txe4 (hl : votes.length = j) (hy : cnt1 1 votes = y) (hn : cnt1 (-1) votes = nn) (hs : y + nn + mm ≤ votes.length ∧ (y + nn + mm = votes.length ↔ votes.all voteB = true)) (h : ((y : Int) + nn + mm != j) = false) (hd : (dec == 0) = true) (h0 : nn = 0) : decide (0 < mm) = (votes.all voteB && decB dec votes) := by
  have hd : dec = 0 := by simpa using hd
  have h : y + nn + mm = j := by simp at h; omega
  have ha := hs.2.1 (by omega)
  rw [ha]; unfold decB; rw [if_neg (by omega), if_neg (by omega), if_pos hd, hy, hn, hl, Bool.true_and, h0, decide_eq_true (rfl : (0 : Nat) = 0), Bool.true_and, Bool.eq_iff_iff]; simp; omega
theorem txe5 (hn : cnt1 (-1) votes = nn) (hd : (dec == 0) = true) (h0 : ¬ nn = 0) : false = (votes.all voteB && decB dec votes) := by
  have hd : dec = 0 := by simpa using hd
  unfold decB; rw [if_neg (by omega), if_neg (by omega), if_pos hd, hn, decide_eq_false h0]; simp
theorem txe6 (h2 : (dec == 2) = false) (h3 : (dec == 3) = false) (h0 : (dec == 0) = false) : false = (votes.all voteB && decB dec votes) := by
  have h2 : ¬ dec = 2 := by simpa using h2
  have h3 : ¬ dec = 3 := by simpa using h3
  have h0 : ¬ dec = 0 := by simpa using h0
  unfold decB; rw [if_neg h2, if_neg h3, if_neg h0]; simp
end
def bufLen (w : World) (c : Nat) : Nat := match w.heap[c]? with | some (.chan _ b _ _ _ _) => b.size | _ => 0
theorem bufLen_of {w : World} {c k : Nat} {b : Array Value} {cl : Bool} {s r : Nat} {tm : Bool} (h : w.heap[c]? = some (.chan k b cl s r tm)) : bufLen w c = b.size := by unfold bufLen; rw [h]
theorem cnt1_snoc {votes : List Int} {j : Nat} (h : j < votes.length) (i : Int) : cnt1 i (votes.take (j + 1)) = (if i = votes[j] then cnt1 i (votes.take j) + 1 else cnt1 i (votes.take j)) := by
  unfold cnt1
  rw [List.take_succ_eq_append_getElem h, List.countP_append, List.countP_singleton]
  by_cases e : i = votes[j]
  · rw [if_pos e, if_pos (by simp [e])]
  · rw [if_neg e, if_neg (by simp; exact fun x => e x.symm)]; omega
theorem got_true (v : Value) (o : Bool) : got true v o = .tuple #[v, .bool o] := rfl
theorem zeroI (w : World) : (zeroValue 3).run Try.prog w = .ok (.int .i64 0) w := by kernel_rfl

set_option maxHeartbeats 3200000 in
set_option maxRecDepth 100000 in
theorem txnOk_any (parts : List PartD) (votes : List Int) (dec : Int) (A0 : Option Addr) (n0 c0 : Nat) (A1 : Option Addr) (n1 c1 : Nat) (w : World) (lo hi : Nat) (hh : hi ≤ w.heap.size) (hr0 : D.rd w lo hi (dParts parts) (.slice A0 n0 c0)) (hr1 : D.rd w lo hi (intsD votes) (.slice A1 n1 c1)) (hwf : ∀ v ∈ votes, (Lit.int .i64 v).wf = true) :
    Calls Try.prog 46 #[.agg #[.slice A0 n0 c0, .slice A1 n1 c1, .int .i64 dec]] w fun e w' => e = .returned (.bool (txnB ⟨parts, votes, dec⟩)) ∧ Below w.heap.size w w' := by
  have HB0 : Hid (Below w.heap.size w (w.alloc (.cells #[.slice A0 n0 c0, .slice A1 n1 c1, .int .i64 dec] 46))) := (Below.refl _ _).alloc (Nat.le_refl _) _
  have HP := Lib.hid (hr0.alloc hh (.cells #[.slice A0 n0 c0, .slice A1 n1 c1, .int .i64 dec] 46))
  have HV := Lib.hid hr1
  have HN0 := Lib.hid hr0.len.1
  have HN1 := Lib.hid hr1.ints.1
  have HWF := Lib.hid hwf
  clear hr0 hr1 hwf
  go_enter Try.func46, Try.ntmps46
  go_wp2_with fail
  refine (partsOk_any parts A0 n0 c0 _ lo hi (by simp; omega) HP.out).mono ?_
  rintro e w1 ⟨rfl, hb1⟩
  have HX1 : Hid (w1.heap[w.heap.size]? = some (.cells #[.slice A0 n0 c0, .slice A1 n1 c1, .int .i64 dec] 46 (0, 0))) := Lib.hid ((hb1.block _ (by simp)).trans (heap_alloc_new w _))
  have HB1 := Lib.hid (bel_tr HB0.out (Nat.le_refl _) hb1)
  have hz1 : w.heap.size < w1.heap.size := by have := hb1.size; simp at this; omega
  have b0 := cell_of_row w1 w.heap.size 0 _ _ _ HX1.out
  have b1 := cell_of_row w1 w.heap.size 1 _ _ _ HX1.out
  have b2 := cell_of_row w1 w.heap.size 2 _ _ _ HX1.out
  clear hb1
  rcases hp : partsB parts with _ | _
  · have hno : Hid (txnB ⟨parts, votes, dec⟩ = false) := by show _ = _; unfold txnB; rw [hp]; rfl
    go_wp2_with fail
    go_ret
    exact ⟨ret_bool hno.out.symm, HB1.out⟩
  by_cases hl : n1 = n0
  · subst hl
    have hl3 : n1 ≤ 3 := by rw [HN0.out]; exact partsB_len hp
    have hl1 : 0 < n1 := by rw [HN0.out]; exact (partsB_and hp).2
    have hmc := fun W : World => mk_chan W n1 hl3
    have HPB := Lib.hid hp
    clear hp
    have HB2 : Hid (Below w.heap.size w (w1.alloc (.chan n1 #[] false 0 0 false))) := Lib.hid (HB1.out.alloc (by omega) _)
    have HX2 : Hid ((w1.alloc (.chan n1 #[] false 0 0 false)).heap[w.heap.size]? = some (.cells #[.slice A0 n1 c0, .slice A1 n1 c1, .int .i64 dec] 46 (0, 0))) := Lib.hid ((Below.heap_alloc w1 _ _ hz1).trans HX1.out)
    have HC2 : Hid ((w1.alloc (.chan n1 #[] false 0 0 false)).heap[w1.heap.size]? = some (.chan n1 #[] false 0 0 false)) := Lib.hid (heap_alloc_new w1 _)
    go_wp2_with fail
    go_loopw [31] (fun i wr => ∃ k : Nat, k ≤ n1 ∧ i = .int .i64 k ∧ Hid (wr.heap[w1.heap.size]? = some (.chan n1 (bufTo votes k) false k 0 false)) ∧ Hid (wr.heap[w.heap.size]? = some (.cells #[.slice A0 n1 c0, .slice A1 n1 c1, .int .i64 dec] 46 (0, 0))) ∧ Below w.heap.size w wr) (fun i _ => n1 - (intOf i).toNat)
    case atStart => exact ⟨0, Nat.zero_le _, rfl, HC2.out, HX2.out, HB2.out⟩
    case round =>
      obtain ⟨k, hk, rfl, HC, HX, hb⟩ := hrel
      have HB := Lib.hid hb
      clear hb HC2 HX2 HB2
      by_cases hlt : k < n1
      · obtain ⟨b, o, hlv, rfl, _, _, hc⟩ := (HV.out.below HB.out hh).ints.int hlt
        go_upto_region 7 with (fail)
        refine WpO.region ?_
        simp only [List.size_toArray, List.length_cons, List.length_nil, Nat.reduceAdd, Nat.zero_add, List.range, List.range.loop]
        refine WpO.value (v := .chan (some w1.heap.size)) rfl rfl rfl ?_
        refine WpO.value (v := .int .i64 votes[k]) rfl rfl rfl ?_
        refine WpO.send (v := .int .i64 votes[k]) (z := .tuple #[]) rfl rfl (by simp [execOp, scase, Act.eval, Act.put]) HC.out (by rw [bufTo_size (by omega)]; exact hlt) ?_
        refine WpO.nil ?_
        rw [bufTo_push hlv]
        have HC3 : Hid ((wr.setChan w1.heap.size n1 (bufTo votes (k + 1)) false (k + 1) 0 false).heap[w1.heap.size]? = some (.chan n1 (bufTo votes (k + 1)) false (k + 1) 0 false)) := chan_block (hlt_of HC.out)
        have HX3 : Hid ((wr.setChan w1.heap.size n1 (bufTo votes (k + 1)) false (k + 1) 0 false).heap[w.heap.size]? = some (.cells #[.slice A0 n1 c0, .slice (some ⟨b, o, none⟩) n1 c1, .int .i64 dec] 46 (0, 0))) := Lib.hid (((chan_grown wr _ _ _ _ _ _ _).block _ (hlt_of HX.out) (fun e => by injection e with e; omega)).trans HX.out)
        have HB3 : Hid (Below w.heap.size w (wr.setChan w1.heap.size n1 (bufTo votes (k + 1)) false (k + 1) 0 false)) := below_setChan HB.out (by omega) _ _ _ _ _ _
        go_wp2_with fail
        exact ⟨⟨k + 1, by omega, by go_num, HC3, HX3, HB3⟩, by simp [intOf]; omega⟩
      · have hkn : k = n1 := by omega
        subst hkn
        obtain ⟨w4, hcl, hc4, hg4⟩ : ∃ w4 : World, (∀ ats ty, (Builtin.close_ ats ty #[.chan (some w1.heap.size)]).run Try.prog wr = .ok (.tuple #[]) w4) ∧ w4.heap[w1.heap.size]? = some (.chan k (bufTo votes k) true k 0 false) ∧ wr.grownBy w4 (some w1.heap.size) :=
          ⟨wr.setChan w1.heap.size k (bufTo votes k) true k 0 false, fun ats ty => run_close_open (P := Try.prog) (w := wr) ats ty HC.out, chan_block (hlt_of HC.out), chan_grown wr _ _ _ _ _ _ _⟩
        have hkv : bufTo votes k = bufFrom votes 0 := by have := HN1.out; subst this; exact bufTo_all votes
        rw [hkv] at hc4
        have hx4 := (hg4.block _ (hlt_of HX.out) (fun e => by injection e with e; omega)).trans HX.out
        have hb4 := HB.out.grown hg4 (by have := HB.out.size; omega) (fun q hq => by injection hq with hq; omega)
        have hz4 : w.heap.size ≤ w4.heap.size := hb4.size
        have HZ4 : Hid (w1.heap.size < w4.heap.size) := Lib.hid (hlt_of hc4)
        have HM5 := Lib.hid (MapI.made w4 Try.prog 3)
        have HC5 : Hid ((w4.alloc (.map #[] 0)).heap[w1.heap.size]? = some (.chan k (bufFrom votes 0) true k 0 false)) := Lib.hid ((Below.heap_alloc w4 _ _ HZ4.out).trans hc4)
        have HX5 : Hid ((w4.alloc (.map #[] 0)).heap[w.heap.size]? = some (.cells #[.slice A0 k c0, .slice A1 k c1, .int .i64 dec] 46 (0, 0))) := Lib.hid ((Below.heap_alloc w4 _ _ (by have := HZ4.out; omega)).trans hx4)
        have HB5 : Hid (Below w.heap.size w (w4.alloc (.map #[] 0))) := Lib.hid (hb4.alloc (by omega) _)
        have hmm := @run_makeMap Try.prog
        clear hc4 hg4 hx4 hb4 HC HX HB hkv
        go_wp2_with fail
        clear hcl hmm
        go_loopw [] (fun ws => ∃ (j n : Nat) (C : Int → Option Value), j ≤ k ∧ n ≤ j ∧ Hid (ws.heap[w1.heap.size]? = some (.chan k (bufFrom votes j) true k j false)) ∧ Hid (MapI Try.prog 3 ws w4.heap.size n C) ∧ Hid (∀ i : Int, (C i).getD (.int .i64 0) = .int .i64 (cnt1 i (votes.take j))) ∧ Hid (ws.heap[w.heap.size]? = some (.cells #[.slice A0 k c0, .slice A1 k c1, .int .i64 dec] 46 (0, 0))) ∧ Below w.heap.size w ws) (fun ws => bufLen ws w1.heap.size)
        case atStart => exact ⟨0, 0, fun _ => none, Nat.zero_le _, Nat.le_refl _, HC5.out, HM5.out, Lib.hid (fun i => rfl), HX5.out, HB5.out⟩
        case round =>
          obtain ⟨j, n, C, hj, hn, HC6, HM6, HK6, HX6, hb6⟩ := hrel
          have HB6 := Lib.hid hb6
          clear hb6 HC5 HM5 HX5 HB5
          by_cases hjk : j < k
          · have hjv : j < votes.length := by have := HN1.out; omega
            go_upto_region 12 with (fail)
            refine WpO.region ?_
            simp only [List.size_toArray, List.length_cons, List.length_nil, Nat.reduceAdd, Nat.zero_add, List.range, List.range.loop]
            refine WpO.recv (z := .int .i64 0) true rfl rfl (by simp [execOp, rcase, Act.eval, Act.put, Try.underlying94, zeroI]) HC6.out (by rw [bufFrom_size]; omega) ?_
            rw [bufFrom_get hjv, bufFrom_next hjv, got_true]
            refine WpO.value (v := .bool true) rfl rfl rfl ?_
            refine WpO.nil ?_
            have hg7 := chan_grown wr w1.heap.size k (bufFrom votes (j + 1)) true k (j + 1) false
            have hc7 : (wr.setChan w1.heap.size k (bufFrom votes (j + 1)) true k (j + 1) false).heap[w1.heap.size]? = some (.chan k (bufFrom votes (j + 1)) true k (j + 1) false) := chan_block (hlt_of HC6.out)
            generalize wr.setChan w1.heap.size k (bufFrom votes (j + 1)) true k (j + 1) false = w7 at hg7 hc7 ⊢
            have hx7 := (hg7.block _ (hlt_of HX6.out) (fun e => by injection e with e; omega)).trans HX6.out
            have HL6 := Lib.hid (bufLen_of HC6.out)
            have hb7 := HB6.out.grown hg7 (by have := HB6.out.size; omega) (fun q hq => by injection hq with hq; omega)
            have hm7 := HM6.out.kept hg7 (fun e => by injection e with e; have := HZ4.out; omega)
            have hwv : (Lit.int .i64 votes[j]).wf = true := HWF.out _ (List.getElem_mem hjv)
            have hlk := hm7.get (e := 3) (t := 95) Try.underlying3 Try.underlying95 (zeroI w7) hwv
            rw [HK6.out] at hlk
            obtain ⟨w8, hup, hm8, hg8⟩ := hm7.set (e := 3) (t := 95) Try.underlying3 Try.underlying95 (by unfold maxLen; omega) hwv (.int .i64 ((cnt1 votes[j] (votes.take j) : Nat) + 1 : Int))
            have HX7 := Lib.hid hx7
            have HB7 := Lib.hid hb7
            have HM7 := Lib.hid hm7
            have HC7 := Lib.hid hc7
            have HZ7 := Lib.hid hwv
            have hcl : cnt1 votes[j] (votes.take j) ≤ j := by unfold cnt1; exact Nat.le_trans List.countP_le_length (by simp; omega)
            clear hx7 hb7 hm7 hc7 hg7 hwv HX6 HB6 HM6 HC6
            have HC8 : Hid (w8.heap[w1.heap.size]? = some (.chan k (bufFrom votes (j + 1)) true k (j + 1) false)) := Lib.hid ((hg8.block _ (hlt_of HC7.out) (fun e => by injection e with e; have := HZ4.out; omega)).trans HC7.out)
            have HX8 : Hid (w8.heap[w.heap.size]? = some (.cells #[.slice A0 k c0, .slice A1 k c1, .int .i64 dec] 46 (0, 0))) := Lib.hid ((hg8.block _ (hlt_of HX7.out) (fun e => by injection e with e; have := HZ4.out; omega)).trans HX7.out)
            have HB8 : Hid (Below w.heap.size w w8) := HB7.out.grown hg8 HB7.out.size (fun q hq => by injection hq with hq; have := HZ4.out; omega)
            have HM8 := Lib.hid hm8
            have HL8 :  Hid (bufLen w8 w1.heap.size < bufLen wr w1.heap.size) := by
              show _ < _
              rw [bufLen_of HC8.out, HL6.out, bufFrom_size, bufFrom_size]; omega
            have HK8 : Hid (∀ i : Int, ((fun x => if x = votes[j] then some (Value.int .i64 ((cnt1 votes[j] (votes.take j) : Nat) + 1 : Int)) else C x) i).getD (.int .i64 0) = .int .i64 (cnt1 i (votes.take (j + 1)))) := Lib.hid fun i => by
              rw [cnt1_snoc hjv]
              by_cases e : i = votes[j]
              · simp only [if_pos e, e]; rfl
              · simp only [if_neg e]; exact HK6.out i
            clear hm8 hg8
            go_wp2_with fail
            exact ⟨⟨j + 1, n + 1, _, by omega, by omega, HC8, HM8, HK8, HX8, HB8⟩, HL8.out⟩
          · have hjn : j = k := by omega
            subst hjn
            have hkl : votes.take j = votes := List.take_of_length_le (by have := HN1.out; omega)
            rw [hkl] at HK6
            have hget : ∀ i : Int, (Lit.int .i64 i).wf = true → ∀ m, (Instr.lookup 95 (.map (some w4.heap.size)) (.int .i64 i) false).run Try.prog (wr.drewN m) = .ok (.int .i64 (cnt1 i votes)) (wr.drewN m) := fun i hi m => by
              rw [← HK6.out]
              exact (HM6.out.drewN m).get (e := 3) (t := 95) Try.underlying3 Try.underlying95 (zeroI _) hi
            have q1 := hget 1 (by decide)
            have q2 := hget (-1) (by decide)
            have q3 := hget 0 (by decide)
            have b0 := cell_of_row wr w.heap.size 0 _ _ _ HX6.out
            have b1 := cell_of_row wr w.heap.size 1 _ _ _ HX6.out
            have b2 := cell_of_row wr w.heap.size 2 _ _ _ HX6.out
            have hsum := cnt_sum votes
            have hlen := HN1.out
            have HTX : Hid (txnB ⟨parts, votes, dec⟩ = (votes.all voteB && decB dec votes)) := by
              show _ = _
              unfold txnB
              have e1 : partsB parts = true := HPB.out
              have e2 : decide (votes.length = parts.length) = true := decide_eq_true (by rw [hlen]; exact HN0.out)
              show (partsB parts && decide (votes.length = parts.length) && votes.all voteB && decB dec votes) = _
              rw [e1, e2]; simp
            clear hget
            go_upto_region 12 with (fail)
            refine WpO.region ?_
            simp only [List.size_toArray, List.length_cons, List.length_nil, Nat.reduceAdd, Nat.zero_add, List.range, List.range.loop]
            refine WpO.shut (c := w1.heap.size) (z := .int .i64 0) true rfl rfl (by simp [execOp, rcase, Act.eval, Act.put, Try.underlying94, zeroI]) (by rw [HC6.out, bufFrom_nil (by omega)]) ?_
            rw [got_true]
            refine WpO.value (v := .bool false) rfl rfl rfl ?_
            refine WpO.nil ?_
            go_wp2_with fail
            generalize hy : cnt1 1 votes = y at q1 hsum
            generalize hnn : cnt1 (-1) votes = nn at q2 hsum
            generalize hz : cnt1 0 votes = mm at q3 hsum
            go_simp
            refine wp_region_quiet_lit (by kernel_rfl) (by kernel_rfl) ?_
            repeat (go_big_quiet_step (fail))
            refine wpQuiet_nil ?_
            intro _ hw'; obtain ⟨nq, hw''⟩ := hw'; subst hw''
            go_wp2_with fail
            all_goals go_ret
            all_goals (clear b0 b1 b2 q1 q2 q3; refine ⟨ret_bool ?_, below_drewN HB6.out _⟩)
            all_goals rw [HTX.out]
            · exact txe1 hlen hsum ‹(_ != _) = true›
            · exact txe2 hlen hy hsum ‹(_ != _) = false› ‹(dec == 2) = true›
            · exact txe3 hlen hy hsum ‹(_ != _) = false› ‹(dec == 3) = true›
            · exact txe4 hlen hy hnn hsum ‹(_ != _) = false› ‹(dec == 0) = true› ‹nn = 0›
            · exact txe5 hnn ‹(dec == 0) = true› ‹¬nn = 0›
            · exact txe6 ‹(dec == 2) = false› ‹(dec == 3) = false› ‹(dec == 0) = false›
  · have hno : Hid (txnB ⟨parts, votes, dec⟩ = false) := by
      show _ = _
      unfold txnB
      have : decide (votes.length = parts.length) = false := decide_eq_false (by have h1 := HN0.out; have h2 := HN1.out; omega)
      show (_ && decide (votes.length = parts.length) && _ && _) = false
      rw [this]; simp
    have hq : (!((n1 : Int) == (n0 : Int))) = true := by simp; omega
    go_wp2_with fail
    go_ret
    exact ⟨ret_bool hno.out.symm, HB1.out⟩

end Go.Proofs.Ytgbkjfhmbchiiaa
