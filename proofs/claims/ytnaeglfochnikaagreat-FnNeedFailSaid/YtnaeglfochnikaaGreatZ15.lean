/-
  The walks of the program's fullStore and findObject, with slices.BinarySearchFunc at a slice of objects: the place of an id in a store. Condition: the objects are valid and in order.
  The walk of slices.Insert at a slice of objects: one object is inserted into a row of the call's own. Condition: few objects.
  The walks of the program's Object.same and StorePut: storing one object in a store. Condition: the store and the object are valid.
-/
import Derived.Test.YtnaeglfochnikaaGreatStorU
import Derived.Test.YtnaeglfochnikaaGreatZ4
import Derived.Laws.CopyOwn
import Derived.Lib.AppendZerosOnto
import Derived.Lib.Overlaps
import Derived.Test.YtnaeglfochnikaaGreatZ10
namespace Go.Proofs.YtnaeglfochnikaaGreat
set_option linter.unusedVariables false
set_option linter.unusedSimpArgs false
open Go.RowKit

theorem plc_iff {os : List ObjD} {n : Int} (ha : AscO os) {k : Nat} (hk : k < os.length) : idB os[k] < n ↔ k < plc os n := by
  constructor
  · intro h
    rcases Nat.lt_or_ge k (plc os n) with h1 | h1
    · exact h1
    · exfalso
      have h2 := plc_ge (os := os) (n := n) (by omega)
      rcases Nat.lt_or_ge (plc os n) k with h3 | h3
      · unfold AscO at ha
        rw [List.pairwise_iff_getElem] at ha
        have := ha (plc os n) k (by omega) hk h3
        omega
      · have e : plc os n = k := by omega
        have h4 : n ≤ idB os[k] := by
          have : idB (os[plc os n]'(by omega)) = idB os[k] := by congr 1; simp only [e]
          omega
        omega
  · intro h
    exact plc_lt h

set_option maxHeartbeats 800000 in
theorem find1_any (kind : Int) (links : List Int) (text : ByteArray) (A : Option Addr) (n c : Nat) (id : Int) (w : World) (lo hi : Nat) (hh : hi ≤ w.heap.size) (hv : objB ⟨kind, links, text⟩ = true) (h0 : 0 ≤ id) (h1 : id ≤ 990) (h : D.rd w lo hi (intsD links) (.slice A n c)) :
    Calls Tryz.prog 85 #[.agg #[.int .i64 kind, .slice A n c, .string text], .int .i64 id] w fun e w' => e = .returned (.int .i64 (idB ⟨kind, links, text⟩ - id)) ∧ Below w.heap.size w w' := by
  have HI : Hid (D.rd (w.alloc (.cells #[.int .i64 kind, .slice A n c, .string text] 52)) lo hi (intsD links) (.slice A n c)) := Lib.hid (h.alloc hh _)
  have HB : Hid (Below w.heap.size w (w.alloc (.cells #[.int .i64 kind, .slice A n c, .string text] 52))) := (Below.refl _ _).alloc (Nat.le_refl _) _
  have HV := Lib.hid hv
  have hbd := idB_bd hv
  obtain ⟨q, hq⟩ : ∃ q, idB ⟨kind, links, text⟩ = q := ⟨_, rfl⟩
  rw [hq] at hbd
  have hb0 := hbd.1
  have hb1 := hbd.2
  have HQ := Lib.hid hq
  clear h hv hbd hq
  go_enter Tryz.func85, Tryz.ntmps85
  go_wp2_with fail
  refine (objId_any kind links text A n c _ lo hi (by simp; omega) HV.out HI.out).mono ?_
  rintro e w2 ⟨rfl, hb2⟩
  rw [HQ.out]
  have HB2 := Lib.hid (bel_tr HB.out (Nat.le_refl _) hb2)
  clear hb2
  go_wp2_with fail
  go_ret
  exact ⟨by rw [HQ.out]; rfl, HB2.out⟩

theorem fndB_at {os : List ObjD} {n : Int} {p : Nat} (hp : plc os n = p) (h : p < os.length) : fndB os n = decide (idB os[p] = n) := by
  subst hp; unfold fndB; rw [dif_pos h]
theorem fndB_out {os : List ObjD} {n : Int} {p : Nat} (hp : plc os n = p) (h : ¬ p < os.length) : fndB os n = false := by
  subst hp; unfold fndB; rw [dif_neg h]

set_option maxRecDepth 100000 in
set_option maxHeartbeats 1600000 in
theorem bsearch_any (os : List ObjD) (A : Option Addr) (n c : Nat) (id : Int) (w : World) (lo hi : Nat) (hh : hi ≤ w.heap.size) (hn : n ≤ 1048576) (hv : ∀ o ∈ os, objB o = true) (ha : AscO os) (h0 : 0 ≤ id) (h1 : id ≤ 990) (h : D.rd w lo hi (dObjects os) (.slice A n c)) :
    Calls Tryz.prog 84 #[.slice A n c, .int .i64 id, .func (.func 85) #[] #[]] w fun e w' =>
      e = .returned (.tuple #[.int .i64 (plc os id : Nat), .bool (fndB os id)]) ∧ Below w.heap.size w w' := by
  have HI := Lib.hid h
  have HN := Lib.hid h.len.1
  have HV := Lib.hid hv
  have HA := Lib.hid ha
  obtain ⟨p, hp⟩ : ∃ p, plc os id = p := ⟨_, rfl⟩
  have hpn : p ≤ n := by
    have h2 := plc_le os id
    have h3 := h.len.1
    omega
  obtain ⟨f, hf⟩ : ∃ f, fndB os id = f := ⟨_, rfl⟩
  have HP := Lib.hid hp
  have HF := Lib.hid hf
  rw [hp, hf]
  clear h hv ha hp hf
  go_enter Tryz.func84, Tryz.ntmps84
  go_wp2_with fail
  go_loopw [9, 10] (fun i j wr => ∃ a b : Nat, i = .int .i64 a ∧ j = .int .i64 b ∧ a ≤ p ∧ p ≤ b ∧ b ≤ n ∧ Below w.heap.size w wr) (fun i j _ => (intOf j).toNat - (intOf i).toNat)
  case atStart => exact ⟨0, n, rfl, rfl, Nat.zero_le _, hpn, Nat.le_refl _, Below.refl _ _⟩
  case round =>
    obtain ⟨a, b, rfl, rfl, hap, hpb, hbn, hbw⟩ := hrel
    have HB := Lib.hid hbw
    have hwsz := hbw.size
    clear hbw
    by_cases hlt : a < b
    · obtain ⟨m, hm⟩ : ∃ m, m = (a + b) / 2 := ⟨_, rfl⟩
      have hmi : ((a : Int) + (b : Int)) / 2 = (m : Int) := by omega
      have hma : a ≤ m := by omega
      have hmb : m < b := by omega
      have hmn : m < n := by omega
      obtain ⟨bk, o, hl, A1, n1, c1, rfl, _, hbh, hc0, hc1, hc2, ⟨hn1, hm1, hr1⟩, ht2⟩ := rd_Object (HI.out.below HB.out hh) hmn
      have HR1 := Lib.hid hr1
      have HVM := Lib.hid (show objB ⟨os[m].kind, os[m].links, os[m].text⟩ = true from HV.out _ (List.getElem_mem hl))
      have hcmp := plc_iff (n := id) HA.out hl
      rw [HP.out] at hcmp
      have hbd := idB_bd (HV.out _ (List.getElem_mem hl))
      obtain ⟨q, hq⟩ : ∃ q, idB ⟨os[m].kind, os[m].links, os[m].text⟩ = q := ⟨_, rfl⟩
      have hq' : idB os[m] = q := hq
      rw [hq'] at hcmp hbd
      have hb0 := hbd.1
      have hb1 := hbd.2
      have HQ := Lib.hid hq
      have hhr : hi ≤ wr.heap.size := Nat.le_trans hh hwsz
      clear hr1 hq hq' hbd hm
      by_cases hqi : q < id
      · have hmp : m < p := hcmp.1 hqi
        have hneg : q - id < 0 := by omega
        clear hcmp hqi
        go_wp2_with fail
        refine (find1_any os[m].kind os[m].links os[m].text A1 n1 c1 id _ lo hi hhr HVM.out h0 h1 HR1.out).mono ?_
        rintro e w2 ⟨rfl, hb2⟩
        rw [HQ.out]
        have HB2 := Lib.hid (bel_tr HB.out (Nat.le_refl _) hb2)
        clear hb2
        go_wp2_with fail
        exact ⟨⟨m + 1, b, by go_num, rfl, by omega, by omega, by omega, HB2.out⟩, by simp [intOf]; omega⟩
      · have hmp : ¬ m < p := fun h => hqi (hcmp.2 h)
        have hneg : ¬ (q - id < 0) := by omega
        clear hcmp hqi
        go_wp2_with fail
        refine (find1_any os[m].kind os[m].links os[m].text A1 n1 c1 id _ lo hi hhr HVM.out h0 h1 HR1.out).mono ?_
        rintro e w2 ⟨rfl, hb2⟩
        rw [HQ.out]
        have HB2 := Lib.hid (bel_tr HB.out (Nat.le_refl _) hb2)
        clear hb2
        go_wp2_with fail
        exact ⟨⟨a, m, rfl, by go_num, by omega, by omega, by omega, HB2.out⟩, by simp [intOf]; omega⟩
    · have hap2 : a = p := by omega
      have hbp2 : b = p := by omega
      subst hap2 hbp2
      by_cases hpl : b < n
      · obtain ⟨bk, o, hl, A1, n1, c1, rfl, _, hbh, hc0, hc1, hc2, ⟨hn1, hm1, hr1⟩, ht2⟩ := rd_Object (HI.out.below HB.out hh) hpl
        have HR1 := Lib.hid hr1
        have HVM := Lib.hid (show objB ⟨os[b].kind, os[b].links, os[b].text⟩ = true from HV.out _ (List.getElem_mem hl))
        have hfa := fndB_at HP.out hl
        rw [HF.out] at hfa
        have hbd := idB_bd (HV.out _ (List.getElem_mem hl))
        obtain ⟨q, hq⟩ : ∃ q, idB ⟨os[b].kind, os[b].links, os[b].text⟩ = q := ⟨_, rfl⟩
        have hq' : idB os[b] = q := hq
        rw [hq'] at hfa hbd
        have hb0 := hbd.1
        have hb1 := hbd.2
        have HQ := Lib.hid hq
        have HFA := Lib.hid hfa
        have hhr : hi ≤ wr.heap.size := Nat.le_trans hh hwsz
        clear hr1 hq hq' hbd hfa
        by_cases hqi : q = id
        · have hz : ((q - id) == 0) = true := by simp; omega
          have HY : Hid (f = true) := by show _ = _; rw [HFA.out]; exact decide_eq_true hqi
          clear hqi
          go_wp2_with fail
          refine (find1_any os[b].kind os[b].links os[b].text A1 n1 c1 id _ lo hi hhr HVM.out h0 h1 HR1.out).mono ?_
          rintro e w2 ⟨rfl, hb2⟩
          rw [HQ.out]
          have HB2 := Lib.hid (bel_tr HB.out (Nat.le_refl _) hb2)
          clear hb2
          go_wp2_with fail
          go_ret2
          exact ⟨by rw [HY.out]; rfl, HB2.out⟩
        · have hz : ((q - id) == 0) = false := by simp; omega
          have HY : Hid (f = false) := by show _ = _; rw [HFA.out]; exact decide_eq_false hqi
          clear hqi
          go_wp2_with fail
          refine (find1_any os[b].kind os[b].links os[b].text A1 n1 c1 id _ lo hi hhr HVM.out h0 h1 HR1.out).mono ?_
          rintro e w2 ⟨rfl, hb2⟩
          rw [HQ.out]
          have HB2 := Lib.hid (bel_tr HB.out (Nat.le_refl _) hb2)
          clear hb2
          go_wp2_with fail
          go_ret2
          exact ⟨by rw [HY.out]; rfl, HB2.out⟩
      · have HY : Hid (f = false) := by
          show _ = _
          rw [← HF.out]
          exact fndB_out HP.out (by rw [← HN.out]; exact hpl)
        go_wp2_with fail
        go_ret2
        exact ⟨by rw [HY.out]; rfl, HB.out⟩

set_option maxHeartbeats 800000 in
theorem findO_any (os : List ObjD) (A : Option Addr) (n c : Nat) (id : Int) (w : World) (lo hi : Nat) (hh : hi ≤ w.heap.size) (hn : n ≤ 1048576) (hv : ∀ o ∈ os, objB o = true) (ha : AscO os) (h0 : 0 ≤ id) (h1 : id ≤ 990) (h : D.rd w lo hi (dObjects os) (.slice A n c)) :
    Calls Tryz.prog 59 #[.slice A n c, .int .i64 id] w fun e w' => e = .returned (.tuple #[.int .i64 (plc os id : Nat), .bool (fndB os id)]) ∧ Below w.heap.size w w' := by
  have HC := Lib.hid (bsearch_any os A n c id w lo hi hh hn hv ha h0 h1 h)
  clear h hv ha
  go_enter Tryz.func59, Tryz.ntmps59
  go_wp2_with fail
  refine HC.out.mono ?_
  rintro e w2 ⟨rfl, hb2⟩
  have HB2 := Lib.hid hb2
  clear hb2
  go_wp2_with fail
  go_ret2
  exact ⟨rfl, HB2.out⟩

end Go.Proofs.YtnaeglfochnikaaGreat

namespace Go.Proofs.YtnaeglfochnikaaGreat
set_option linter.unusedVariables false
set_option linter.unusedSimpArgs false
open Go.RowKit

theorem addr_add (b o j : Nat) : (⟨b, o, none⟩ : Addr).add j = ⟨b, o + j, none⟩ := by
  unfold Addr.add
  by_cases hj : j = 0 <;> simp [hj]

/-- 'copy' of elements of any size into a row that is known whole -/
theorem run_copyK {P : Program} (w : World) (dT sT ty elem : TypeId) (size g o dLen dCap : Nat) (a : Addr) (sLen sCap : Nat) (cur : List Value) (t : TypeId) (cs : List Value)
    (hu : P.underlying dT = some (.slice elem)) (hs : (P.info? elem).map (·.size) = some size) (hg : w.heap[g]? = some (.cells cur.toArray t (0, 0))) (hn : cs.length = Nat.min sLen dLen * size)
    (hsrc : ∀ j v, cs[j]? = some v → w.cell? (a.add j) = some v) (hfit : o + cs.length ≤ cur.length) (h1 : ∀ v ∈ cs, v.oneCell' = true) :
    (Builtin.copy_ #[dT, sT] ty #[.slice (some ⟨g, o, none⟩) dLen dCap, .slice (some a) sLen sCap]).run P w = .ok (goInt (Nat.min sLen dLen)) (w.setRow g (splice cur o cs).toArray) := by
  have hl := run_loadCells_list (P := P) w a cs hsrc
  have hst := run_storeCells_at P g o t cs 0 cur.toArray w hg (by simpa using hfit) h1
  cases hq : P.info? elem with
  | none => simp [hq] at hs
  | some i =>
    have hi : i.size = size := by simpa [hq] using hs
    have hl' : (loadCells a (Nat.min sLen dLen * size)).run P w = .ok cs.toArray w := by rw [← hn]; exact hl
    simp [Builtin.copy_, run_underlying hu, Builtin.lenOf, Builtin.firstCells, sizeOf, typeInfo, hq, hi, hl', hst, splice]

theorem copyK_ex {P : Program} (w : World) (dT sT ty elem : TypeId) (size g o dLen dCap : Nat) (a : Addr) (sLen sCap : Nat) (cur : List Value) (t : TypeId) (cs : List Value)
    (hu : P.underlying dT = some (.slice elem)) (hs : (P.info? elem).map (·.size) = some size) (hg : w.heap[g]? = some (.cells cur.toArray t (0, 0))) (hn : cs.length = Nat.min sLen dLen * size)
    (hsrc : ∀ j v, cs[j]? = some v → w.cell? (a.add j) = some v) (hfit : o + cs.length ≤ cur.length) (h1 : ∀ v ∈ cs, v.oneCell' = true) :
    ∃ w', (Builtin.copy_ #[dT, sT] ty #[.slice (some ⟨g, o, none⟩) dLen dCap, .slice (some a) sLen sCap]).run P w = .ok (goInt (Nat.min sLen dLen)) w' ∧ w'.heap[g]? = some (.cells (splice cur o cs).toArray t (0, 0)) ∧ w.grownBy w' (some g) :=
  ⟨_, run_copyK w dT sT ty elem size g o dLen dCap a sLen sCap cur t cs hu hs hg hn hsrc hfit h1, setRow_heap w g _ _ t _ hg, ⟨rfl, rfl, rfl, by simp [World.setRow], fun k _ hne => setRow_other w g k _ (fun e => hne (by rw [e]))⟩⟩

theorem step_copyK {P : Program} {ops : Array Oper} {o : Oper} {a : Act} {w : World} {K : Act → World → Prop} {Q : Exit → Act → World → Prop} {E : Prop} (d s : Operand) (dT sT : TypeId) (hgd : o.guard = none)
    (ho : o.op = .call { callee := .builtin .copy, args := #[d, s], argTypes := #[dT, sT] }) (elem : TypeId) (size : Nat) (hu : P.underlying dT = some (.slice elem)) (hsz : (P.info? elem).map (·.size) = some size)
    (g off dLen dCap : Nat) (ad : Addr) (sLen sCap : Nat) (hd : a.eval d = .slice (some ⟨g, off, none⟩) dLen dCap) (hs : a.eval s = .slice (some ad) sLen sCap)
    (cur : List Value) (t : TypeId) (hg : w.heap[g]? = some (.cells cur.toArray t (0, 0))) (cs : List Value) (hn : cs.length = Nat.min sLen dLen * size)
    (hsrc : ∀ j v, cs[j]? = some v → w.cell? (ad.add j) = some v) (hfit : off + cs.length ≤ cur.length) (h1 : ∀ v ∈ cs, v.oneCell' = true)
    (h : ∀ w', w'.heap[g]? = some (.cells (splice cur off cs).toArray t (0, 0)) → w.grownBy w' (some g) → K (a.put o.dst (goInt (Nat.min sLen dLen))) w') :
    if Region.wanted o (yielded ops a.tmps) = true then Oper.wp P o a w K Q else E := by
  have hw : Region.wanted o (yielded ops a.tmps) = true := by simp [Region.wanted, hgd]
  rw [if_pos hw]
  have hrun := run_copyK (P := P) w dT sT o.type elem size g off dLen dCap ad sLen sCap cur t cs hu hsz hg hn hsrc hfit h1
  unfold Oper.wp
  simp [execOp, ho, resolve, invoke, builtin, hd, hs, hrun, Result.andThen]
  exact h _ (setRow_heap w g _ _ t _ hg) ⟨rfl, rfl, rfl, by simp [World.setRow], fun k _ hne => setRow_other w g k _ (fun e => hne (by rw [e]))⟩
theorem wpList_append_is {P : Program} {w : World} {ops : Array Oper} {rest : List Oper} {o : Oper} {a : Act} {Q : Exit → Act → World → Prop} (s x : Operand) (t t' : TypeId) (hgd : o.guard = none)
    (ho : o.op = .call { callee := .builtin .append, args := #[s, x], argTypes := #[t, t'] }) {v u v' : Value} {w' : World} (hs : a.eval s = v) (hx : a.eval x = u) (hr : (Builtin.append_ #[t, t'] o.type #[v, u]).run P w = .ok v' w')
    (h : wpList P ops Q rest (a.put o.dst v') w') : wpList P ops Q (o :: rest) a w := by
  refine wpList_plain hgd fun K hK => ?_
  unfold Oper.wp
  simp [execOp, ho, resolve, invoke, builtin, hs, hx, hr, Result.andThen]
  exact hK _ _ h

theorem splice_get {L cs : List Value} {off : Nat} (h : off ≤ L.length) (j : Nat) : (splice L off cs)[j]? = if j < off then L[j]? else if j < off + cs.length then cs[j - off]? else L[j]? := by
  unfold splice
  have hl : (L.take off).length = off := by rw [List.length_take, Nat.min_eq_left h]
  rw [List.getElem?_append, hl]
  by_cases h1 : j < off
  · rw [if_pos h1, if_pos h1, List.getElem?_take, if_pos h1]
  · rw [if_neg h1, if_neg h1, List.getElem?_append]
    by_cases h2 : j < off + cs.length
    · rw [if_pos h2, if_pos (by omega)]
    · rw [if_neg h2, if_neg (by omega), List.getElem?_drop]
      congr 1; omega
/-- the row that an insertion leaves -/
theorem ins_get {cs vs : List Value} {i : Nat} (hi : i * 3 ≤ cs.length) (hv : vs.length = 3) (j : Nat) : (cs.take (i * 3) ++ vs ++ cs.drop (i * 3))[j]? = if j < i * 3 then cs[j]? else if j < i * 3 + 3 then vs[j - i * 3]? else cs[j - 3]? := by
  have hl : (cs.take (i * 3)).length = i * 3 := by rw [List.length_take, Nat.min_eq_left hi]
  rw [List.append_assoc, List.getElem?_append, hl]
  by_cases h1 : j < i * 3
  · rw [if_pos h1, if_pos h1, List.getElem?_take, if_pos h1]
  · rw [if_neg h1, if_neg h1, List.getElem?_append, hv]
    by_cases h2 : j < i * 3 + 3
    · rw [if_pos h2, if_pos (by omega)]
    · rw [if_neg h2, if_neg (by omega), List.getElem?_drop]
      congr 1; omega
/-- what has been inserted in place -/
theorem splice_ins (L cs vs : List Value) (i n : Nat) (hL : L.take (n * 3) = cs) (hn : (n + 1) * 3 ≤ L.length) (hc : cs.length = n * 3) (hv : vs.length = 3) (hi : i < n) :
    (splice (splice L ((i + 1) * 3) (cs.drop (i * 3))) (i * 3) vs).take ((n + 1) * 3) = cs.take (i * 3) ++ vs ++ cs.drop (i * 3) := by
  have hdl : (cs.drop (i * 3)).length = (n - i) * 3 := by rw [List.length_drop, hc]; omega
  have hLc : ∀ j, j < n * 3 → L[j]? = cs[j]? := fun j hj => by rw [← hL, List.getElem?_take, if_pos hj]
  refine List.ext_getElem? fun j => ?_
  rw [ins_get (by omega) hv, List.getElem?_take]
  by_cases hj : j < (n + 1) * 3
  · rw [if_pos hj, splice_get (by rw [length_splice _ _ _ (by rw [hdl]; omega)]; omega), splice_get (by omega), hv]
    by_cases h1 : j < i * 3
    · rw [if_pos h1, if_pos (show j < (i + 1) * 3 by omega), if_pos h1, hLc j (by omega)]
    · by_cases h2 : j < i * 3 + 3
      · rw [if_neg h1, if_pos h2, if_neg h1, if_pos h2]
      · rw [if_neg h1, if_neg h2, if_neg (show ¬ j < (i + 1) * 3 by omega), if_pos (by rw [hdl]; omega), if_neg h1, if_neg h2, List.getElem?_drop]
        congr 1; omega
  · rw [if_neg hj, if_neg (show ¬ j < i * 3 by omega), if_neg (show ¬ j < i * 3 + 3 by omega), List.getElem?_eq_none (by omega)]
/-- .. and in a new row -/
theorem splice_new (cs vs zs : List Value) (i n : Nat) (hc : cs.length = n * 3) (hv : vs.length = 3) (hi : i < n) (hz : (n + 1 - i) * 3 ≤ zs.length) :
    (splice (splice (cs.take (i * 3) ++ zs) (i * 3) vs) ((i + 1) * 3) (cs.drop (i * 3))).take ((n + 1) * 3) = cs.take (i * 3) ++ vs ++ cs.drop (i * 3) := by
  have hdl : (cs.drop (i * 3)).length = (n - i) * 3 := by rw [List.length_drop, hc]; omega
  have htl : (cs.take (i * 3)).length = i * 3 := by rw [List.length_take, Nat.min_eq_left (by omega)]
  have hal : (cs.take (i * 3) ++ zs).length = i * 3 + zs.length := by rw [List.length_append, htl]
  refine List.ext_getElem? fun j => ?_
  rw [ins_get (by omega) hv, List.getElem?_take]
  by_cases hj : j < (n + 1) * 3
  · rw [if_pos hj, splice_get (by rw [length_splice _ _ _ (by rw [hal, hv]; omega), hal]; omega), splice_get (by rw [hal]; omega), hv, hdl]
    by_cases h1 : j < i * 3
    · rw [if_pos (show j < (i + 1) * 3 by omega), if_pos h1, if_pos h1, List.getElem?_append_left (by rw [htl]; exact h1), List.getElem?_take, if_pos h1]
    · by_cases h2 : j < i * 3 + 3
      · rw [if_pos (show j < (i + 1) * 3 by omega), if_neg h1, if_pos h2, if_neg h1, if_pos h2]
      · rw [if_neg (show ¬ j < (i + 1) * 3 by omega), if_pos (by omega), if_neg h1, if_neg h2, List.getElem?_drop]
        congr 1; omega
  · rw [if_neg hj, if_neg (show ¬ j < i * 3 by omega), if_neg (show ¬ j < i * 3 + 3 by omega), List.getElem?_eq_none (by omega)]

/-- the block behind an address -/
def ownA : Option Addr → Option Nat
  | some a => some a.block
  | none => none
theorem ob_eq (A : Option Addr) (n c : Nat) : (Value.slice A n c).ownBlock = ownA A := by cases A <;> rfl
/-- what slices.Insert leaves -/
def InsR (base : Nat) (w : World) (A : Option Addr) (n i : Nat) (cs vs : List Value) (e : Ending) (w' : World) : Prop :=
  ∃ v', w'.ownsRow base 52 3 v' (n + 1) (cs.take (i * 3) ++ vs ++ cs.drop (i * 3)) ∧ w.grownBy w' (ownA A) ∧ (v'.ownBlock = ownA A ∨ ∃ g, v'.ownBlock = some g ∧ w.heap.size ≤ g) ∧ e = .returned v'

end Go.Proofs.YtnaeglfochnikaaGreat

namespace Go.Proofs.YtnaeglfochnikaaGreat
set_option linter.unusedVariables false
set_option linter.unusedSimpArgs false
open Go.RowKit

theorem D.ownL.app_inv {w : World} : ∀ {a b : List D} {F : List Nat} {vs : List Value}, D.ownL w (a ++ b) F vs → ∃ x y F1 F2, vs = x ++ y ∧ F = F1 ++ F2 ∧ D.ownL w a F1 x ∧ D.ownL w b F2 y
  | [], b, F, vs, h => ⟨[], vs, [], F, rfl, rfl, D.ownL.nil w, h⟩
  | d :: a, b, F, vs, h => by
    rw [List.cons_append] at h
    unfold D.ownL at h
    obtain ⟨v, r, F1, F2, rfl, rfl, h3, h4⟩ := h
    obtain ⟨x, y, G1, G2, rfl, rfl, k1, k2⟩ := D.ownL.app_inv h4
    exact ⟨v :: x, y, F1 ++ G1, G2, rfl, by simp, D.ownL.cons h3 k1, k2⟩
theorem D.own.one {w : World} : ∀ {d : D} {F : List Nat} {v : Value}, D.own w d F v → v.oneCell' = true
  | .int n, F, v, h => by unfold D.own at h; rw [h.2]; rfl
  | .str s, F, v, h => by unfold D.own at h; rw [h.2.1]; rfl
  | .bool b, F, v, h => by unfold D.own at h; rw [h.2]; rfl
  | .arr m n es, F, v, h => by unfold D.own at h; obtain ⟨A, c, vs, F', rfl, _⟩ := h; rfl
theorem D.ownL.one {w : World} : ∀ {ds : List D} {F : List Nat} {vs : List Value}, D.ownL w ds F vs → ∀ u ∈ vs, u.oneCell' = true
  | [], F, vs, h, u, hu => by unfold D.ownL at h; rw [h.2] at hu; cases hu
  | d :: ds, F, vs, h, u, hu => by
    unfold D.ownL at h
    obtain ⟨v, r, F1, F2, rfl, rfl, h3, h4⟩ := h
    rcases List.mem_cons.1 hu with rfl | hu
    · exact h3.one
    · exact D.ownL.one h4 u hu

/-- a row of objects into which one more has been inserted -/
theorem Grow.ins {w wl w' : World} {base n i : Nat} {A : Option Addr} {c : Nat} {os : List ObjD} {o : ObjD} {vs cs : List Value} {F G : List Nat} {e : Ending} (hn : os.length = n) (hi : i ≤ n)
    (h1 : w.ownsRow base 52 3 (.slice A n c) n cs) (h2 : D.ownL w (os.flatMap fObject) F cs) (h3 : F.Nodup) (h4 : ∀ g ∈ F, base ≤ g ∧ g < w.heap.size) (h5 : ∀ g, ownA A = some g → g ∉ F)
    (k2 : D.ownL w (fObject o) G vs) (k3 : G.Nodup) (k4 : ∀ g ∈ G, base ≤ g ∧ g < w.heap.size) (k5 : ∀ g, ownA A = some g → g ∉ G) (k6 : ∀ g ∈ G, g ∉ F)
    (hwl : ∃ ob, wl = w.alloc ob) (hr : InsR base wl A n i cs vs e w') :
    ∃ v', Grow w' base 52 3 v' (n + 1) ((os.take i ++ o :: os.drop i).flatMap fObject) ∧ wl.grownBy w' (ownA A) ∧ e = .returned v' := by
  obtain ⟨v', r1, r2, r3, rfl⟩ := hr
  obtain ⟨ob, rfl⟩ := hwl
  refine ⟨v', ?_, r2, rfl⟩
  have hsz : (w.alloc ob).heap.size = w.heap.size + 1 := by simp
  have hkeep : ∀ g, g < w.heap.size → ownA A ≠ some g → w'.heap[g]? = w.heap[g]? := fun g hg hne =>
    (r2.block g (by omega) (fun e => hne e.symm)).trans (Below.heap_alloc _ _ _ hg)
  have hsplit : os.flatMap fObject = (os.take i).flatMap fObject ++ (os.drop i).flatMap fObject := by rw [← List.flatMap_append, List.take_append_drop]
  rw [hsplit] at h2
  obtain ⟨x, y, F1, F2, rfl, rfl, a1, a2⟩ := D.ownL.app_inv h2
  have hxl : x.length = i * 3 := by rw [D.ownL.length a1, flat_lenG fObject 3 fObject_len, List.length_take, Nat.min_eq_left (by omega)]
  have e1 : (x ++ y).take (i * 3) = x := by rw [← hxl]; simp
  have e2 : (x ++ y).drop (i * 3) = y := by rw [← hxl]; simp
  rw [e1, e2] at r1
  have hkF1 : ∀ g ∈ F1, w'.heap[g]? = w.heap[g]? := fun g hg => hkeep g (h4 g (List.mem_append_left _ hg)).2 (fun e => h5 g e (List.mem_append_left _ hg))
  have hkF2 : ∀ g ∈ F2, w'.heap[g]? = w.heap[g]? := fun g hg => hkeep g (h4 g (List.mem_append_right _ hg)).2 (fun e => h5 g e (List.mem_append_right _ hg))
  have hkG : ∀ g ∈ G, w'.heap[g]? = w.heap[g]? := fun g hg => hkeep g (k4 g hg).2 (fun e => k5 g e hg)
  have hnd := List.nodup_append.1 h3
  refine ⟨x ++ vs ++ y, (F1 ++ G) ++ F2, r1, ?_, ?_, ?_, ?_⟩
  · rw [List.flatMap_append, List.flatMap_cons, ← List.append_assoc]
    exact D.ownL.app (D.ownL.app (D.ownL.keep _ F1 x hkF1 a1) (D.ownL.keep _ G vs hkG k2)) (D.ownL.keep _ F2 y hkF2 a2)
  · refine List.nodup_append.2 ⟨List.nodup_append.2 ⟨hnd.1, k3, fun a ha b hb e => ?_⟩, hnd.2.1, fun a ha b hb e => ?_⟩
    · subst e; exact k6 a hb (List.mem_append_left _ ha)
    · subst e
      rcases List.mem_append.1 ha with ha | ha
      · exact hnd.2.2 a ha a hb rfl
      · exact k6 a ha (List.mem_append_right _ hb)
  · intro g hg
    have hs := r2.size
    have key : base ≤ g ∧ g < w.heap.size := by
      rcases List.mem_append.1 hg with hg | hg
      · rcases List.mem_append.1 hg with hg | hg
        · exact h4 g (List.mem_append_left _ hg)
        · exact k4 g hg
      · exact h4 g (List.mem_append_right _ hg)
    exact ⟨key.1, by omega⟩
  · intro g hv hg
    rcases r3 with r3 | ⟨q, r3, hq⟩
    · rw [r3] at hv
      rcases List.mem_append.1 hg with hg | hg
      · rcases List.mem_append.1 hg with hg | hg
        · exact h5 g hv (List.mem_append_left _ hg)
        · exact k5 g hv hg
      · exact h5 g hv (List.mem_append_right _ hg)
    · rw [r3] at hv
      injection hv with hv
      subst hv
      have key : q < w.heap.size := by
        rcases List.mem_append.1 hg with hg | hg
        · rcases List.mem_append.1 hg with hg | hg
          · exact (h4 q (List.mem_append_left _ hg)).2
          · exact (k4 q hg).2
        · exact (h4 q (List.mem_append_right _ hg)).2
      omega

theorem sameB_kind {a b : ObjD} (h : ¬ a.kind = b.kind) : sameB a b = false := by unfold sameB; rw [decide_eq_false h]; rfl
theorem sameB_links {a b : ObjD} (h : ¬ a.links = b.links) : sameB a b = false := by unfold sameB; rw [decide_eq_false h]; simp
theorem sameB_text {a b : ObjD} (h1 : a.kind = b.kind) (h2 : a.links = b.links) : sameB a b = (a.text.toList == b.text.toList) := by
  unfold sameB; rw [decide_eq_true h1, decide_eq_true h2, ByteArray.toList_eq, ByteArray.toList_eq]; rfl

end Go.Proofs.YtnaeglfochnikaaGreat
