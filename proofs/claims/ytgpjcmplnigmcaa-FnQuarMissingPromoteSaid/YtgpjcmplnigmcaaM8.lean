/-
  The walks of the program's fullStore and findObject, with slices.BinarySearchFunc at a slice of objects: the place of an id in a store. Condition: the objects are valid and in order.
  The walk of slices.Insert at a slice of objects: one object is inserted into a row of the call's own. Condition: few objects.
  The walks of slices.Equal and slices.Sort at slices of ints: the second over a row of the call's own. Condition: few elements.
  The walks of the program's Object.same and StorePut: storing one object in a store. Condition: the store and the object are valid.
-/
import Derived.Test.YtgpjcmplnigmcaaStorU
import Derived.Test.YtgpjcmplnigmcaaM2
import Derived.Laws.CopyOwn
import Derived.Lib.AppendZerosOnto
import Derived.Lib.Overlaps
import Derived.Test.YtgpjcmplnigmcaaM5
import Derived.Test.YtgpjcmplnigmcaaShelf
import Derived.Sort.OwnSortedInts
import Derived.Deep.DeepCutAuto
namespace Go.Proofs.Ytgpjcmplnigmcaa
set_option linter.unusedVariables false
set_option linter.unusedSimpArgs false
open Go.RowKit

theorem plc_iff {os : List ObjD} {n : Int} (ha : AscO os) {k : Nat} (hk : k < os.length) : idB os[k] < n ↔ k < plc os n := by
  constructor
  · intro h
    rcases Nat.lt_or_ge k (plc os n) with h1 | h1
    · exact h1
    · exfalso
      have h2 := plc_ge (os := os) (n := n) (by omega)
      rcases Nat.lt_or_ge (plc os n) k with h3 | h3
      · unfold AscO at ha
        rw [List.pairwise_iff_getElem] at ha
        have := ha (plc os n) k (by omega) hk h3
        omega
      · have e : plc os n = k := by omega
        have h4 : n ≤ idB os[k] := by
          have : idB (os[plc os n]'(by omega)) = idB os[k] := by congr 1; simp only [e]
          omega
        omega
  · intro h
    exact plc_lt h

set_option maxHeartbeats 800000 in
theorem find1_any (kind : Int) (links : List Int) (text : ByteArray) (A : Option Addr) (n c : Nat) (id : Int) (w : World) (lo hi : Nat) (hh : hi ≤ w.heap.size) (hv : objB ⟨kind, links, text⟩ = true) (h0 : 0 ≤ id) (h1 : id ≤ 990) (h : D.rd w lo hi (intsD links) (.slice A n c)) :
    Calls Try.prog 110 #[.agg #[.int .i64 kind, .slice A n c, .string text], .int .i64 id] w fun e w' => e = .returned (.int .i64 (idB ⟨kind, links, text⟩ - id)) ∧ Below w.heap.size w w' := by
  have HI : Hid (D.rd (w.alloc (.cells #[.int .i64 kind, .slice A n c, .string text] 58)) lo hi (intsD links) (.slice A n c)) := Lib.hid (h.alloc hh _)
  have HB : Hid (Below w.heap.size w (w.alloc (.cells #[.int .i64 kind, .slice A n c, .string text] 58))) := (Below.refl _ _).alloc (Nat.le_refl _) _
  have HV := Lib.hid hv
  have hbd := idB_bd hv
  obtain ⟨q, hq⟩ : ∃ q, idB ⟨kind, links, text⟩ = q := ⟨_, rfl⟩
  rw [hq] at hbd
  have hb0 := hbd.1
  have hb1 := hbd.2
  have HQ := Lib.hid hq
  clear h hv hbd hq
  go_enter Try.func110, Try.ntmps110
  go_wp2_with fail
  refine (objId_any kind links text A n c _ lo hi (by simp; omega) HV.out HI.out).mono ?_
  rintro e w2 ⟨rfl, hb2⟩
  rw [HQ.out]
  have HB2 := Lib.hid (bel_tr HB.out (Nat.le_refl _) hb2)
  clear hb2
  go_wp2_with fail
  go_ret
  exact ⟨by rw [HQ.out]; rfl, HB2.out⟩

theorem fndB_at {os : List ObjD} {n : Int} {p : Nat} (hp : plc os n = p) (h : p < os.length) : fndB os n = decide (idB os[p] = n) := by
  subst hp; unfold fndB; rw [dif_pos h]
theorem fndB_out {os : List ObjD} {n : Int} {p : Nat} (hp : plc os n = p) (h : ¬ p < os.length) : fndB os n = false := by
  subst hp; unfold fndB; rw [dif_neg h]

set_option maxRecDepth 100000 in
set_option maxHeartbeats 1600000 in
theorem bsearch_any (os : List ObjD) (A : Option Addr) (n c : Nat) (id : Int) (w : World) (lo hi : Nat) (hh : hi ≤ w.heap.size) (hn : n ≤ 1048576) (hv : ∀ o ∈ os, objB o = true) (ha : AscO os) (h0 : 0 ≤ id) (h1 : id ≤ 990) (h : D.rd w lo hi (dObjects os) (.slice A n c)) :
    Calls Try.prog 109 #[.slice A n c, .int .i64 id, .func (.func 110) #[] #[]] w fun e w' =>
      e = .returned (.tuple #[.int .i64 (plc os id : Nat), .bool (fndB os id)]) ∧ Below w.heap.size w w' := by
  have HI := Lib.hid h
  have HN := Lib.hid h.len.1
  have HV := Lib.hid hv
  have HA := Lib.hid ha
  obtain ⟨p, hp⟩ : ∃ p, plc os id = p := ⟨_, rfl⟩
  have hpn : p ≤ n := by
    have h2 := plc_le os id
    have h3 := h.len.1
    omega
  obtain ⟨f, hf⟩ : ∃ f, fndB os id = f := ⟨_, rfl⟩
  have HP := Lib.hid hp
  have HF := Lib.hid hf
  rw [hp, hf]
  clear h hv ha hp hf
  go_enter Try.func109, Try.ntmps109
  go_wp2_with fail
  go_loopw [9, 10] (fun i j wr => ∃ a b : Nat, i = .int .i64 a ∧ j = .int .i64 b ∧ a ≤ p ∧ p ≤ b ∧ b ≤ n ∧ Below w.heap.size w wr) (fun i j _ => (intOf j).toNat - (intOf i).toNat)
  case atStart => exact ⟨0, n, rfl, rfl, Nat.zero_le _, hpn, Nat.le_refl _, Below.refl _ _⟩
  case round =>
    obtain ⟨a, b, rfl, rfl, hap, hpb, hbn, hbw⟩ := hrel
    have HB := Lib.hid hbw
    have hwsz := hbw.size
    clear hbw
    by_cases hlt : a < b
    · obtain ⟨m, hm⟩ : ∃ m, m = (a + b) / 2 := ⟨_, rfl⟩
      have hmi : ((a : Int) + (b : Int)) / 2 = (m : Int) := by omega
      have hma : a ≤ m := by omega
      have hmb : m < b := by omega
      have hmn : m < n := by omega
      obtain ⟨bk, o, hl, A1, n1, c1, rfl, _, hbh, hc0, hc1, hc2, ⟨hn1, hm1, hr1⟩, ht2⟩ := rd_Object (HI.out.below HB.out hh) hmn
      have HR1 := Lib.hid hr1
      have HVM := Lib.hid (show objB ⟨os[m].kind, os[m].links, os[m].text⟩ = true from HV.out _ (List.getElem_mem hl))
      have hcmp := plc_iff (n := id) HA.out hl
      rw [HP.out] at hcmp
      have hbd := idB_bd (HV.out _ (List.getElem_mem hl))
      obtain ⟨q, hq⟩ : ∃ q, idB ⟨os[m].kind, os[m].links, os[m].text⟩ = q := ⟨_, rfl⟩
      have hq' : idB os[m] = q := hq
      rw [hq'] at hcmp hbd
      have hb0 := hbd.1
      have hb1 := hbd.2
      have HQ := Lib.hid hq
      have hhr : hi ≤ wr.heap.size := Nat.le_trans hh hwsz
      clear hr1 hq hq' hbd hm
      by_cases hqi : q < id
      · have hmp : m < p := hcmp.1 hqi
        have hneg : q - id < 0 := by omega
        clear hcmp hqi
        go_wp2_with fail
        refine (find1_any os[m].kind os[m].links os[m].text A1 n1 c1 id _ lo hi hhr HVM.out h0 h1 HR1.out).mono ?_
        rintro e w2 ⟨rfl, hb2⟩
        rw [HQ.out]
        have HB2 := Lib.hid (bel_tr HB.out (Nat.le_refl _) hb2)
        clear hb2
        go_wp2_with fail
        exact ⟨⟨m + 1, b, by go_num, rfl, by omega, by omega, by omega, HB2.out⟩, by simp [intOf]; omega⟩
      · have hmp : ¬ m < p := fun h => hqi (hcmp.2 h)
        have hneg : ¬ (q - id < 0) := by omega
        clear hcmp hqi
        go_wp2_with fail
        refine (find1_any os[m].kind os[m].links os[m].text A1 n1 c1 id _ lo hi hhr HVM.out h0 h1 HR1.out).mono ?_
        rintro e w2 ⟨rfl, hb2⟩
        rw [HQ.out]
        have HB2 := Lib.hid (bel_tr HB.out (Nat.le_refl _) hb2)
        clear hb2
        go_wp2_with fail
        exact ⟨⟨a, m, rfl, by go_num, by omega, by omega, by omega, HB2.out⟩, by simp [intOf]; omega⟩
    · have hap2 : a = p := by omega
      have hbp2 : b = p := by omega
      subst hap2 hbp2
      by_cases hpl : b < n
      · obtain ⟨bk, o, hl, A1, n1, c1, rfl, _, hbh, hc0, hc1, hc2, ⟨hn1, hm1, hr1⟩, ht2⟩ := rd_Object (HI.out.below HB.out hh) hpl
        have HR1 := Lib.hid hr1
        have HVM := Lib.hid (show objB ⟨os[b].kind, os[b].links, os[b].text⟩ = true from HV.out _ (List.getElem_mem hl))
        have hfa := fndB_at HP.out hl
        rw [HF.out] at hfa
        have hbd := idB_bd (HV.out _ (List.getElem_mem hl))
        obtain ⟨q, hq⟩ : ∃ q, idB ⟨os[b].kind, os[b].links, os[b].text⟩ = q := ⟨_, rfl⟩
        have hq' : idB os[b] = q := hq
        rw [hq'] at hfa hbd
        have hb0 := hbd.1
        have hb1 := hbd.2
        have HQ := Lib.hid hq
        have HFA := Lib.hid hfa
        have hhr : hi ≤ wr.heap.size := Nat.le_trans hh hwsz
        clear hr1 hq hq' hbd hfa
        by_cases hqi : q = id
        · have hz : ((q - id) == 0) = true := by simp; omega
          have HY : Hid (f = true) := by show _ = _; rw [HFA.out]; exact decide_eq_true hqi
          clear hqi
          go_wp2_with fail
          refine (find1_any os[b].kind os[b].links os[b].text A1 n1 c1 id _ lo hi hhr HVM.out h0 h1 HR1.out).mono ?_
          rintro e w2 ⟨rfl, hb2⟩
          rw [HQ.out]
          have HB2 := Lib.hid (bel_tr HB.out (Nat.le_refl _) hb2)
          clear hb2
          go_wp2_with fail
          go_ret2
          exact ⟨by rw [HY.out]; rfl, HB2.out⟩
        · have hz : ((q - id) == 0) = false := by simp; omega
          have HY : Hid (f = false) := by show _ = _; rw [HFA.out]; exact decide_eq_false hqi
          clear hqi
          go_wp2_with fail
          refine (find1_any os[b].kind os[b].links os[b].text A1 n1 c1 id _ lo hi hhr HVM.out h0 h1 HR1.out).mono ?_
          rintro e w2 ⟨rfl, hb2⟩
          rw [HQ.out]
          have HB2 := Lib.hid (bel_tr HB.out (Nat.le_refl _) hb2)
          clear hb2
          go_wp2_with fail
          go_ret2
          exact ⟨by rw [HY.out]; rfl, HB2.out⟩
      · have HY : Hid (f = false) := by
          show _ = _
          rw [← HF.out]
          exact fndB_out HP.out (by rw [← HN.out]; exact hpl)
        go_wp2_with fail
        go_ret2
        exact ⟨by rw [HY.out]; rfl, HB.out⟩

set_option maxHeartbeats 800000 in
theorem findO_any (os : List ObjD) (A : Option Addr) (n c : Nat) (id : Int) (w : World) (lo hi : Nat) (hh : hi ≤ w.heap.size) (hn : n ≤ 1048576) (hv : ∀ o ∈ os, objB o = true) (ha : AscO os) (h0 : 0 ≤ id) (h1 : id ≤ 990) (h : D.rd w lo hi (dObjects os) (.slice A n c)) :
    Calls Try.prog 80 #[.slice A n c, .int .i64 id] w fun e w' => e = .returned (.tuple #[.int .i64 (plc os id : Nat), .bool (fndB os id)]) ∧ Below w.heap.size w w' := by
  have HC := Lib.hid (bsearch_any os A n c id w lo hi hh hn hv ha h0 h1 h)
  clear h hv ha
  go_enter Try.func80, Try.ntmps80
  go_wp2_with fail
  refine HC.out.mono ?_
  rintro e w2 ⟨rfl, hb2⟩
  have HB2 := Lib.hid hb2
  clear hb2
  go_wp2_with fail
  go_ret2
  exact ⟨rfl, HB2.out⟩

set_option maxHeartbeats 800000 in
theorem fullStore_any (os : List ObjD) (A : Option Addr) (n c : Nat) (w : World) (lo hi : Nat) (hh : hi ≤ w.heap.size) (h : D.rd w lo hi (dObjects os) (.slice A n c)) :
    Calls Try.prog 51 #[.slice A n c] w fun e w' => e = .returned (.bool (fullB os)) ∧ Below w.heap.size w w' := by
  have HI := Lib.hid h
  have HN := Lib.hid h.len.1
  have hn63 : n ≤ 9223372036854775807 := by have := h.len; omega
  clear h
  rcases Nat.eq_zero_or_pos n with h0 | h0
  · subst h0
    have HF : Hid (fullB os = false) := by show _ = _; unfold fullB; rw [← HN.out]; rfl
    go_enter Try.func51, Try.ntmps51
    go_wp2_with fail
    go_ret
    exact ⟨ret_bool HF.out.symm, Below.refl _ _⟩
  · have HF : Hid (fullB os = storeB os) := by show _ = _; unfold fullB; rw [← HN.out, decide_eq_true h0, Bool.true_and]
    have hn1 : (0 : Int) < (n : Int) := by omega
    go_enter Try.func51, Try.ntmps51
    go_wp2_with fail
    refine (implStoreValid_any os A n c _ lo hi hh HI.out).mono ?_
    rintro e w2 ⟨rfl, hb2⟩
    rw [← HF.out]
    have HB2 := Lib.hid hb2
    clear hb2
    go_wp2_with fail
    go_ret
    exact ⟨rfl, HB2.out⟩

end Go.Proofs.Ytgpjcmplnigmcaa

namespace Go.Proofs.Ytgpjcmplnigmcaa
set_option linter.unusedVariables false
set_option linter.unusedSimpArgs false
open Go.RowKit

theorem addr_add (b o j : Nat) : (⟨b, o, none⟩ : Addr).add j = ⟨b, o + j, none⟩ := by
  unfold Addr.add
  by_cases hj : j = 0 <;> simp [hj]

/-- 'copy' of elements of any size into a row that is known whole -/
theorem run_copyK {P : Program} (w : World) (dT sT ty elem : TypeId) (size g o dLen dCap : Nat) (a : Addr) (sLen sCap : Nat) (cur : List Value) (t : TypeId) (cs : List Value)
    (hu : P.underlying dT = some (.slice elem)) (hs : (P.info? elem).map (·.size) = some size) (hg : w.heap[g]? = some (.cells cur.toArray t (0, 0))) (hn : cs.length = Nat.min sLen dLen * size)
    (hsrc : ∀ j v, cs[j]? = some v → w.cell? (a.add j) = some v) (hfit : o + cs.length ≤ cur.length) (h1 : ∀ v ∈ cs, v.oneCell' = true) :
    (Builtin.copy_ #[dT, sT] ty #[.slice (some ⟨g, o, none⟩) dLen dCap, .slice (some a) sLen sCap]).run P w = .ok (goInt (Nat.min sLen dLen)) (w.setRow g (splice cur o cs).toArray) := by
  have hl := run_loadCells_list (P := P) w a cs hsrc
  have hst := run_storeCells_at P g o t cs 0 cur.toArray w hg (by simpa using hfit) h1
  cases hq : P.info? elem with
  | none => simp [hq] at hs
  | some i =>
    have hi : i.size = size := by simpa [hq] using hs
    have hl' : (loadCells a (Nat.min sLen dLen * size)).run P w = .ok cs.toArray w := by rw [← hn]; exact hl
    simp [Builtin.copy_, run_underlying hu, Builtin.lenOf, Builtin.firstCells, sizeOf, typeInfo, hq, hi, hl', hst, splice]

theorem copyK_ex {P : Program} (w : World) (dT sT ty elem : TypeId) (size g o dLen dCap : Nat) (a : Addr) (sLen sCap : Nat) (cur : List Value) (t : TypeId) (cs : List Value)
    (hu : P.underlying dT = some (.slice elem)) (hs : (P.info? elem).map (·.size) = some size) (hg : w.heap[g]? = some (.cells cur.toArray t (0, 0))) (hn : cs.length = Nat.min sLen dLen * size)
    (hsrc : ∀ j v, cs[j]? = some v → w.cell? (a.add j) = some v) (hfit : o + cs.length ≤ cur.length) (h1 : ∀ v ∈ cs, v.oneCell' = true) :
    ∃ w', (Builtin.copy_ #[dT, sT] ty #[.slice (some ⟨g, o, none⟩) dLen dCap, .slice (some a) sLen sCap]).run P w = .ok (goInt (Nat.min sLen dLen)) w' ∧ w'.heap[g]? = some (.cells (splice cur o cs).toArray t (0, 0)) ∧ w.grownBy w' (some g) :=
  ⟨_, run_copyK w dT sT ty elem size g o dLen dCap a sLen sCap cur t cs hu hs hg hn hsrc hfit h1, setRow_heap w g _ _ t _ hg, ⟨rfl, rfl, rfl, by simp [World.setRow], fun k _ hne => setRow_other w g k _ (fun e => hne (by rw [e]))⟩⟩

theorem step_copyK {P : Program} {ops : Array Oper} {o : Oper} {a : Act} {w : World} {K : Act → World → Prop} {Q : Exit → Act → World → Prop} {E : Prop} (d s : Operand) (dT sT : TypeId) (hgd : o.guard = none)
    (ho : o.op = .call { callee := .builtin .copy, args := #[d, s], argTypes := #[dT, sT] }) (elem : TypeId) (size : Nat) (hu : P.underlying dT = some (.slice elem)) (hsz : (P.info? elem).map (·.size) = some size)
    (g off dLen dCap : Nat) (ad : Addr) (sLen sCap : Nat) (hd : a.eval d = .slice (some ⟨g, off, none⟩) dLen dCap) (hs : a.eval s = .slice (some ad) sLen sCap)
    (cur : List Value) (t : TypeId) (hg : w.heap[g]? = some (.cells cur.toArray t (0, 0))) (cs : List Value) (hn : cs.length = Nat.min sLen dLen * size)
    (hsrc : ∀ j v, cs[j]? = some v → w.cell? (ad.add j) = some v) (hfit : off + cs.length ≤ cur.length) (h1 : ∀ v ∈ cs, v.oneCell' = true)
    (h : ∀ w', w'.heap[g]? = some (.cells (splice cur off cs).toArray t (0, 0)) → w.grownBy w' (some g) → K (a.put o.dst (goInt (Nat.min sLen dLen))) w') :
    if Region.wanted o (yielded ops a.tmps) = true then Oper.wp P o a w K Q else E := by
  have hw : Region.wanted o (yielded ops a.tmps) = true := by simp [Region.wanted, hgd]
  rw [if_pos hw]
  have hrun := run_copyK (P := P) w dT sT o.type elem size g off dLen dCap ad sLen sCap cur t cs hu hsz hg hn hsrc hfit h1
  unfold Oper.wp
  simp [execOp, ho, resolve, invoke, builtin, hd, hs, hrun, Result.andThen]
  exact h _ (setRow_heap w g _ _ t _ hg) ⟨rfl, rfl, rfl, by simp [World.setRow], fun k _ hne => setRow_other w g k _ (fun e => hne (by rw [e]))⟩
theorem wpList_append_is {P : Program} {w : World} {ops : Array Oper} {rest : List Oper} {o : Oper} {a : Act} {Q : Exit → Act → World → Prop} (s x : Operand) (t t' : TypeId) (hgd : o.guard = none)
    (ho : o.op = .call { callee := .builtin .append, args := #[s, x], argTypes := #[t, t'] }) {v u v' : Value} {w' : World} (hs : a.eval s = v) (hx : a.eval x = u) (hr : (Builtin.append_ #[t, t'] o.type #[v, u]).run P w = .ok v' w')
    (h : wpList P ops Q rest (a.put o.dst v') w') : wpList P ops Q (o :: rest) a w := by
  refine wpList_plain hgd fun K hK => ?_
  unfold Oper.wp
  simp [execOp, ho, resolve, invoke, builtin, hs, hx, hr, Result.andThen]
  exact hK _ _ h

theorem splice_get {L cs : List Value} {off : Nat} (h : off ≤ L.length) (j : Nat) : (splice L off cs)[j]? = if j < off then L[j]? else if j < off + cs.length then cs[j - off]? else L[j]? := by
  unfold splice
  have hl : (L.take off).length = off := by rw [List.length_take, Nat.min_eq_left h]
  rw [List.getElem?_append, hl]
  by_cases h1 : j < off
  · rw [if_pos h1, if_pos h1, List.getElem?_take, if_pos h1]
  · rw [if_neg h1, if_neg h1, List.getElem?_append]
    by_cases h2 : j < off + cs.length
    · rw [if_pos h2, if_pos (by omega)]
    · rw [if_neg h2, if_neg (by omega), List.getElem?_drop]
      congr 1; omega
/-- the row that an insertion leaves -/
theorem ins_get {cs vs : List Value} {i : Nat} (hi : i * 3 ≤ cs.length) (hv : vs.length = 3) (j : Nat) : (cs.take (i * 3) ++ vs ++ cs.drop (i * 3))[j]? = if j < i * 3 then cs[j]? else if j < i * 3 + 3 then vs[j - i * 3]? else cs[j - 3]? := by
  have hl : (cs.take (i * 3)).length = i * 3 := by rw [List.length_take, Nat.min_eq_left hi]
  rw [List.append_assoc, List.getElem?_append, hl]
  by_cases h1 : j < i * 3
  · rw [if_pos h1, if_pos h1, List.getElem?_take, if_pos h1]
  · rw [if_neg h1, if_neg h1, List.getElem?_append, hv]
    by_cases h2 : j < i * 3 + 3
    · rw [if_pos h2, if_pos (by omega)]
    · rw [if_neg h2, if_neg (by omega), List.getElem?_drop]
      congr 1; omega
/-- what has been inserted in place -/
theorem splice_ins (L cs vs : List Value) (i n : Nat) (hL : L.take (n * 3) = cs) (hn : (n + 1) * 3 ≤ L.length) (hc : cs.length = n * 3) (hv : vs.length = 3) (hi : i < n) :
    (splice (splice L ((i + 1) * 3) (cs.drop (i * 3))) (i * 3) vs).take ((n + 1) * 3) = cs.take (i * 3) ++ vs ++ cs.drop (i * 3) := by
  have hdl : (cs.drop (i * 3)).length = (n - i) * 3 := by rw [List.length_drop, hc]; omega
  have hLc : ∀ j, j < n * 3 → L[j]? = cs[j]? := fun j hj => by rw [← hL, List.getElem?_take, if_pos hj]
  refine List.ext_getElem? fun j => ?_
  rw [ins_get (by omega) hv, List.getElem?_take]
  by_cases hj : j < (n + 1) * 3
  · rw [if_pos hj, splice_get (by rw [length_splice _ _ _ (by rw [hdl]; omega)]; omega), splice_get (by omega), hv]
    by_cases h1 : j < i * 3
    · rw [if_pos h1, if_pos (show j < (i + 1) * 3 by omega), if_pos h1, hLc j (by omega)]
    · by_cases h2 : j < i * 3 + 3
      · rw [if_neg h1, if_pos h2, if_neg h1, if_pos h2]
      · rw [if_neg h1, if_neg h2, if_neg (show ¬ j < (i + 1) * 3 by omega), if_pos (by rw [hdl]; omega), if_neg h1, if_neg h2, List.getElem?_drop]
        congr 1; omega
  · rw [if_neg hj, if_neg (show ¬ j < i * 3 by omega), if_neg (show ¬ j < i * 3 + 3 by omega), List.getElem?_eq_none (by omega)]
/-- .. and in a new row -/
theorem splice_new (cs vs zs : List Value) (i n : Nat) (hc : cs.length = n * 3) (hv : vs.length = 3) (hi : i < n) (hz : (n + 1 - i) * 3 ≤ zs.length) :
    (splice (splice (cs.take (i * 3) ++ zs) (i * 3) vs) ((i + 1) * 3) (cs.drop (i * 3))).take ((n + 1) * 3) = cs.take (i * 3) ++ vs ++ cs.drop (i * 3) := by
  have hdl : (cs.drop (i * 3)).length = (n - i) * 3 := by rw [List.length_drop, hc]; omega
  have htl : (cs.take (i * 3)).length = i * 3 := by rw [List.length_take, Nat.min_eq_left (by omega)]
  have hal : (cs.take (i * 3) ++ zs).length = i * 3 + zs.length := by rw [List.length_append, htl]
  refine List.ext_getElem? fun j => ?_
  rw [ins_get (by omega) hv, List.getElem?_take]
  by_cases hj : j < (n + 1) * 3
  · rw [if_pos hj, splice_get (by rw [length_splice _ _ _ (by rw [hal, hv]; omega), hal]; omega), splice_get (by rw [hal]; omega), hv, hdl]
    by_cases h1 : j < i * 3
    · rw [if_pos (show j < (i + 1) * 3 by omega), if_pos h1, if_pos h1, List.getElem?_append_left (by rw [htl]; exact h1), List.getElem?_take, if_pos h1]
    · by_cases h2 : j < i * 3 + 3
      · rw [if_pos (show j < (i + 1) * 3 by omega), if_neg h1, if_pos h2, if_neg h1, if_pos h2]
      · rw [if_neg (show ¬ j < (i + 1) * 3 by omega), if_pos (by omega), if_neg h1, if_neg h2, List.getElem?_drop]
        congr 1; omega
  · rw [if_neg hj, if_neg (show ¬ j < i * 3 by omega), if_neg (show ¬ j < i * 3 + 3 by omega), List.getElem?_eq_none (by omega)]

/-- the block behind an address -/
def ownA : Option Addr → Option Nat
  | some a => some a.block
  | none => none
theorem ob_eq (A : Option Addr) (n c : Nat) : (Value.slice A n c).ownBlock = ownA A := by cases A <;> rfl
/-- what slices.Insert leaves -/
def InsR (base : Nat) (w : World) (A : Option Addr) (n i : Nat) (cs vs : List Value) (e : Ending) (w' : World) : Prop :=
  ∃ v', w'.ownsRow base 58 3 v' (n + 1) (cs.take (i * 3) ++ vs ++ cs.drop (i * 3)) ∧ w.grownBy w' (ownA A) ∧ (v'.ownBlock = ownA A ∨ ∃ g, v'.ownBlock = some g ∧ w.heap.size ≤ g) ∧ e = .returned v'

set_option maxRecDepth 100000 in
set_option maxHeartbeats 1600000 in
theorem insert_end (cs vs : List Value) (A : Option Addr) (n c vb base : Nat) (w : World) (hn : n ≤ 1000) (hbase : base ≤ w.heap.size) (hown : w.ownsRow base 58 3 (.slice A n c) n cs) (hvl : vs.length = 3) (h1v : ∀ v ∈ vs, v.oneCell' = true) (hvs : w.heap[vb]? = some (.cells vs.toArray 58 (0, 0))) :
    Calls Try.prog 114 #[.slice A n c, .int .i64 n, .slice (some ⟨vb, 0, none⟩) 1 1] w fun e w' => InsR base w A n n cs vs e w' := by
  have hcl := hown.1
  have HO := Lib.hid hown
  have HV1 := Lib.hid h1v
  have HVL := Lib.hid hvl
  have HRD : Hid (Rd w vb (vb + 1) (some ⟨vb, 0, none⟩) vs) := Lib.hid fun _ => ⟨vb, 0, rfl, Nat.le_refl _, Nat.lt_succ_self _, fun j u hu => by
    rw [cell_of_row w vb (0 + j) _ _ _ hvs]; simpa using hu⟩
  obtain ⟨A', c', he, hnc, hcm, -⟩ := Rd.of_own hown
  injection he with he1 _ he2
  subst he1 he2
  unfold maxLen at hcm
  have hcs : cs.take (n * 3) = cs := List.take_of_length_le (by omega)
  have hcd : cs.drop (n * 3) = [] := List.drop_eq_nil_of_le (by omega)
  have HCS := Lib.hid hcs
  have HCD := Lib.hid hcd
  clear hown h1v hvl hvs hcl hcs hcd
  go_enter Try.func114, Try.ntmps114
  go_wp2_with (at_builtin; go_must (refine wpList_app_at Try.elObj (m := 1) HO.out HRD.out HVL.out HV1.out (by unfold maxLen; omega) (by omega) hbase rfl rfl rfl rfl ?_); intro v2 w2 hown2 hg2 hat2; rw [ob_eq] at hg2 hat2)
  all_goals
    go_ret
    exact ⟨v2, by rw [HCS.out, HCD.out, List.append_nil]; exact hown2, hg2, by rcases hat2 with h | h; exact .inl h; exact .inr ⟨_, h, Nat.le_refl _⟩, rfl⟩

set_option maxRecDepth 100000 in
set_option maxHeartbeats 3200000 in
theorem insert_room (cs vs : List Value) (g n c i vb base : Nat) (w : World) (hn : n ≤ 1000) (hi : i < n) (hroom : n + 1 ≤ c) (hown : w.ownsRow base 58 3 (.slice (some ⟨g, 0, none⟩) n c) n cs) (hvl : vs.length = 3) (h1v : ∀ v ∈ vs, v.oneCell' = true) (h1c : ∀ v ∈ cs, v.oneCell' = true) (hvs : w.heap[vb]? = some (.cells vs.toArray 58 (0, 0))) (hvb : vb ≠ g) :
    Calls Try.prog 114 #[.slice (some ⟨g, 0, none⟩) n c, .int .i64 i, .slice (some ⟨vb, 0, none⟩) 1 1] w fun e w' => InsR base w (some ⟨g, 0, none⟩) n i cs vs e w' := by
  have hcl := hown.1
  obtain ⟨g', cap, cur, e1, hb, hh, hnc, hm, hs, ht⟩ := hown.2.resolve_left (fun h => by have := h.1; injection this with h1; cases h1)
  injection e1 with e1 e2 e3
  injection e1 with e1
  injection e1 with e1
  subst e1 e3
  unfold maxLen at hm
  obtain ⟨L, hL⟩ : ∃ L, cur.toList = L := ⟨_, rfl⟩
  have hcur : cur = L.toArray := by rw [← hL]
  rw [hL] at ht
  rw [hcur] at hh hs
  have hLl : L.length = c * 3 := by simpa using hs
  have hsz : (Try.prog.info? 58).map (·.size) = some 3 := by
    obtain ⟨i0, hi0, h0, h1, h2⟩ := info_parts Try.elObj.info
    rw [hi0]; simp [h1]
  have hgl : g < w.heap.size := hltS hh
  have hvl2 : vb < w.heap.size := hltS hvs
  have hsa : w.shape? vb = some (58, 3) := by unfold World.shape?; rw [hvs]; simp [hvl]
  have hsb : w.shape? g = some (58, c * 3) := by unfold World.shape?; rw [hh]; simp [hLl]
  have hov : ∀ lb cb, (callFunc 123 #[.slice (some ⟨vb, 0, none⟩) 1 1, .slice (some ⟨g, (i + 1) * 3, none⟩) lb cb]).run Try.prog w = .ok (.value (.bool false)) w := fun lb cb => by
    rw [run_callFunc_extern Try.func123 (by kernel_rfl) (by kernel_rfl) (by kernel_rfl) (e := Extern.SlicesOverlaps.overlaps #[28, 28] #[4]) (by kernel_rfl),
      Lib.run_overlaps_apart w 28 4 58 Try.underlying28 3 Try.sizeOf58 ⟨vb, 0, none⟩ ⟨g, (i + 1) * 3, none⟩ 1 1 lb cb hvb _ _ _ _ hsa hsb (by omega) (frozen_of_row w vb 0 _ _ hvs) (frozen_of_row w vb 3 _ _ hvs)]
    rfl
  have hdl : (cs.drop (i * 3)).length = (n - i) * 3 := by rw [List.length_drop, hcl]; omega
  have hLc : ∀ j, j < n * 3 → L[j]? = cs[j]? := fun j hj => by rw [← ht, List.getElem?_take, if_pos hj]
  have hz2 : ¬ ((i : Int) = (n : Int)) := by omega
  have hw1 : IntKind.i64.wrap ((i : Int) + 1) = (i : Int) + 1 := by rw [IntKind.wrap_i64]; omega
  have hw2 : IntKind.i64.wrap ((n : Int) + 1) = (n : Int) + 1 := by rw [IntKind.wrap_i64]; omega
  have hb1 : (0 : Int) ≤ (i : Int) + 1 := by omega
  have hin : i ≤ n := by omega
  have htn : ((i : Int) + 1).toNat = i + 1 := by omega
  have htn2 : ((n : Int) + 1).toNat = n + 1 := by omega
  have hb2 : ¬ (c = i + 1) := by omega
  have hb3 : (i : Int) ≤ (n : Int) + 1 := by omega
  have hb4 : ¬ (c = i) := by omega
  have hbc : ¬ ((c : Int) < (n : Int) + 1) := by omega
  have hbd : (n : Int) + 1 ≤ (c : Int) := by omega
  have HOV := Lib.hid hov
  have HH := Lib.hid hh
  have HVS := Lib.hid hvs
  have HLC := Lib.hid hLc
  have HT := Lib.hid ht
  have HL := Lib.hid hLl
  have HCL := Lib.hid hcl
  have H1 := Lib.hid h1v
  have H1C := Lib.hid h1c
  have HDL := Lib.hid hdl
  have HVL := Lib.hid hvl
  have HSZ := Lib.hid hsz
  have HN1 : Hid ((cs.drop (i * 3)).length = Nat.min (n + 1 - i) (n + 1 - (i + 1)) * 3) := by
    show _ = _
    rw [hdl, show Nat.min (n + 1 - i) (n + 1 - (i + 1)) = n - i from (by show min _ _ = _; omega)]
  have HS1 : Hid (∀ j v, (cs.drop (i * 3))[j]? = some v → w.cell? ((⟨g, i * 3, none⟩ : Addr).add j) = some v) := by
    show ∀ _ _, _
    intro j v hj
    rw [List.getElem?_drop] at hj
    have hjl : i * 3 + j < n * 3 := by have := (List.getElem?_eq_some_iff.1 hj).1; omega
    rw [addr_add, cell_of_row w g (i * 3 + j) _ _ _ hh]
    rw [← hLc _ hjl] at hj
    simpa using hj
  have HF1 : Hid ((i + 1) * 3 + (cs.drop (i * 3)).length ≤ L.length) := by show _ ≤ _; rw [hdl, hLl]; omega
  have HO1 : Hid (∀ v ∈ cs.drop (i * 3), v.oneCell' = true) := fun v hv => h1c v (List.mem_of_mem_drop hv)
  have HN2 : Hid (vs.length = Nat.min 1 (n + 1 - i) * 3) := by
    show _ = _
    rw [hvl, show Nat.min 1 (n + 1 - i) = 1 from (by show min _ _ = _; omega)]
  have HS2 : Hid (∀ (w2 : World), w.drew.grownBy w2 (some g) → ∀ j v, vs[j]? = some v → w2.cell? ⟨vb, 0 + j, none⟩ = some v) := by
    show ∀ _, _
    intro w2 hg j v hj
    rw [cell_of_row w2 vb (0 + j) _ _ _ ((hg.block vb hvl2 (fun e => hvb (by injection e))).trans hvs)]
    simpa using hj
  have HF2 : Hid (i * 3 + vs.length ≤ (splice L ((i + 1) * 3) (cs.drop (i * 3))).length) := by
    show _ ≤ _
    rw [length_splice _ _ _ HF1.out, hLl, hvl]; omega
  clear hov hh hvs hLc ht hLl hcl h1v h1c hdl hvl hown hs hcur hL hsa hsb hsz
  go_enter Try.func114, Try.ntmps114
  go_wp2_with (simp only [HOV.out])
  go_region_law (go_must (refine step_copyK (.tmp 73) (.tmp 76) 28 28 rfl rfl 58 3 Try.underlying28 HSZ.out g ((i + 1) * 3) (n + 1 - (i + 1)) (c - (i + 1)) ⟨g, i * 3, none⟩ (n + 1 - i) (c - i) (by simp [Act.eval, Act.put]) (by simp [Act.eval, Act.put]) L 58 HH.out (cs.drop (i * 3)) HN1.out HS1.out HF1.out HO1.out ?_); intro w2 hh2 hg2; have HH2 := Lib.hid hh2; have HG2 := Lib.hid hg2; clear hh2 hg2)
  all_goals
    obtain ⟨w3, hrun, hh3, hg3⟩ := copyK_ex (P := Try.prog) w2 28 28 3 58 3 g (i * 3) (n + 1 - i) (c - i) ⟨vb, 0, none⟩ 1 1 _ 58 vs Try.underlying28 HSZ.out HH2.out HN2.out (fun j v hj => by rw [addr_add]; exact HS2.out w2 HG2.out j v hj) HF2.out H1.out
    have HH3 := Lib.hid hh3
    have HG3 := Lib.hid hg3
    have HRUN := Lib.hid hrun
    clear hrun hh3 hg3
    go_wp2_with fail
    rw [HRUN.out]
    go_wp2_with fail
    go_ret
    have hsl : (splice (splice L ((i + 1) * 3) (cs.drop (i * 3))) (i * 3) vs).length = c * 3 := by rw [length_splice _ _ _ HF2.out, length_splice _ _ _ HF1.out, HL.out]
    have htk := splice_ins L cs vs i n HT.out (by rw [HL.out]; omega) HCL.out HVL.out hi
    refine ⟨_, ⟨by rw [List.length_append, List.length_append, HVL.out, HDL.out, List.length_take, HCL.out]; omega, .inr ⟨g, c, _, rfl, hb, HH3.out, hroom, hm, by simpa using hsl, by simpa using htk⟩⟩, ?_, .inl rfl, rfl⟩
    exact grown_tr (grown_tr (⟨rfl, rfl, rfl, Nat.le_refl _, fun _ _ _ => rfl⟩ : w.grownBy w.drew _) HG2.out) HG3.out


set_option maxRecDepth 100000 in
set_option maxHeartbeats 3200000 in
theorem insert_new (cs vs : List Value) (g n c i vb base : Nat) (w : World) (hn : n ≤ 1000) (hi : i < n) (hroom : c < n + 1) (hbase : base ≤ w.heap.size) (hown : w.ownsRow base 58 3 (.slice (some ⟨g, 0, none⟩) n c) n cs) (hvl : vs.length = 3) (h1v : ∀ v ∈ vs, v.oneCell' = true) (h1c : ∀ v ∈ cs, v.oneCell' = true) (hvs : w.heap[vb]? = some (.cells vs.toArray 58 (0, 0))) :
    Calls Try.prog 114 #[.slice (some ⟨g, 0, none⟩) n c, .int .i64 i, .slice (some ⟨vb, 0, none⟩) 1 1] w fun e w' => InsR base w (some ⟨g, 0, none⟩) n i cs vs e w' := by
  have hcl := hown.1
  obtain ⟨g', cap, cur, e1, hb, hh, hnc, hm, hs, ht⟩ := hown.2.resolve_left (fun h => by have := h.1; injection this with h1; cases h1)
  injection e1 with e1 e2 e3
  injection e1 with e1
  injection e1 with e1
  subst e1 e3
  have hcn : c = n := by omega
  subst hcn
  have hcs : ∀ j v, cs[j]? = some v → w.cell? ⟨g, j, none⟩ = some v := fun j v hj => by
    rw [hown.cellAt j (by have := (List.getElem?_eq_some_iff.1 hj).1; omega)]; exact hj
  have hgl : g < w.heap.size := hltS hh
  have hvl2 : vb < w.heap.size := hltS hvs
  obtain ⟨i0, hi0, hz0, hzs, hzb⟩ := info_parts Try.elObj.info
  have hsz : (Try.prog.info? 58).map (·.size) = some 3 := by rw [hi0]; simp [hzs]
  have hik : i + (c + 1 - i) = c + 1 := by omega
  have hold : (Builtin.firstCells i0.size i (.slice (some ⟨g, 0, none⟩) i c)).run Try.prog w.drew = .ok (cs.take (i * 3)).toArray w.drew := by
    rw [hzs]
    refine run_firstCells_some w.drew 3 i ⟨g, 0, none⟩ i c (cs.take (i * 3)) (by rw [List.length_take, Nat.min_eq_left (by omega)]) (fun j v hj => ?_)
    rw [addr_add, Nat.zero_add]
    rw [List.getElem?_take] at hj
    split at hj
    · exact hcs j v hj
    · cases hj
  have hrz := Lib.run_append_grow_zeros (P := Try.prog) w 28 3 28 58 i0 _ .i64 .i64 Try.underlying28 Try.underlying3 hi0 hz0 (some ⟨g, 0, none⟩) i c (cs.take (i * 3)) hold (c + 1 - i) (by omega) (by omega) (by omega) (by omega) (by rw [hzb]; omega) (by rw [hzb, hik]; exact growslice_fits hroom (by omega))
  rw [hik] at hrz
  obtain ⟨G, hG⟩ : ∃ G, G = grownCap w (c + 1) c 58 := ⟨_, rfl⟩
  rw [← hG] at hrz
  have hGn : c + 1 ≤ G := by rw [hG]; exact grownCap_ge w _ _ _
  have hG63 : G ≤ maxLen := by rw [hG]; exact grownCap_le_maxLen w (c + 1) c 58 (by unfold maxLen; omega)
  obtain ⟨ZS, hZS⟩ : ∃ ZS, ZS = (Builtin.zeroCells (Value.agg #[.int .i64 0, .slice none 0 0, .string ⟨#[]⟩]).cells (c + 1 - i) ++ Builtin.zeroCells (Value.agg #[.int .i64 0, .slice none 0 0, .string ⟨#[]⟩]).cells (G - (c + 1))).toList := ⟨_, rfl⟩
  have hZl : ZS.length = (G - i) * 3 := by
    rw [hZS]
    simp [Builtin.zeroCells, Value.cells]
    omega
  obtain ⟨W1, hW1⟩ : ∃ W1, W1 = w.drew.alloc (.cells ((cs.take (i * 3)).toArray ++ Builtin.zeroCells (Value.agg #[.int .i64 0, .slice none 0 0, .string ⟨#[]⟩]).cells (c + 1 - i) ++ Builtin.zeroCells (Value.agg #[.int .i64 0, .slice none 0 0, .string ⟨#[]⟩]).cells (G - (c + 1))) 58) := ⟨_, rfl⟩
  rw [← hW1] at hrz
  have hh1 : W1.heap[w.heap.size]? = some (.cells (cs.take (i * 3) ++ ZS).toArray 58 (0, 0)) := by
    rw [hW1]
    have := heap_alloc_new w.drew (.cells ((cs.take (i * 3)).toArray ++ Builtin.zeroCells (Value.agg #[.int .i64 0, .slice none 0 0, .string ⟨#[]⟩]).cells (c + 1 - i) ++ Builtin.zeroCells (Value.agg #[.int .i64 0, .slice none 0 0, .string ⟨#[]⟩]).cells (G - (c + 1))) 58)
    rw [show w.drew.heap.size = w.heap.size from rfl] at this
    rw [this, hZS]
    simp
  have hg1 : w.grownBy W1 (some g) := by rw [hW1]; exact grown_tr (⟨rfl, rfl, rfl, Nat.le_refl _, fun _ _ _ => rfl⟩ : w.grownBy w.drew _) (World.grownBy_alloc w.drew _ _)
  have hbel : ∀ q, q < w.heap.size → W1.heap[q]? = w.heap[q]? := fun q hq => by rw [hW1]; exact Below.heap_alloc w.drew _ _ hq
  obtain ⟨h, hhd⟩ : ∃ h, h = w.heap.size := ⟨_, rfl⟩
  rw [← hhd] at hrz hh1
  have hdl : (cs.drop (i * 3)).length = (c - i) * 3 := by rw [List.length_drop, hcl]; omega
  have htl : (cs.take (i * 3)).length = i * 3 := by rw [List.length_take, Nat.min_eq_left (by omega)]
  obtain ⟨W2, hrunA, hh2, hg2⟩ := copyK_ex (P := Try.prog) W1 28 28 3 58 3 h (i * 3) (c + 1 - i) (G - i) ⟨vb, 0, none⟩ 1 1 (cs.take (i * 3) ++ ZS) 58 vs Try.underlying28 hsz hh1
    (by rw [hvl, show Nat.min 1 (c + 1 - i) = 1 from (by show min _ _ = _; omega)])
    (fun j v hj => by rw [addr_add, cell_of_row W1 vb (0 + j) _ _ _ ((hbel vb hvl2).trans hvs)]; simpa using hj)
    (by rw [List.length_append, htl, hZl, hvl]; omega) h1v
  have hl2 : (splice (cs.take (i * 3) ++ ZS) (i * 3) vs).length = G * 3 := by
    rw [length_splice _ _ _ (by rw [List.length_append, htl, hZl, hvl]; omega), List.length_append, htl, hZl]; omega
  have HSZ := Lib.hid hsz
  have HRZ := Lib.hid hrz
  have HRA := Lib.hid hrunA
  have HH2 := Lib.hid hh2
  have HG1 := Lib.hid hg1
  have HG2 := Lib.hid hg2
  have HL2 := Lib.hid hl2
  have HN3 : Hid ((cs.drop (i * 3)).length = Nat.min (c - i) (c + 1 - (i + 1)) * 3) := by
    show _ = _
    rw [hdl, show Nat.min (c - i) (c + 1 - (i + 1)) = c - i from (by show min _ _ = _; omega)]
  have HS3 : Hid (∀ j v, (cs.drop (i * 3))[j]? = some v → W2.drew.cell? ((⟨g, i * 3, none⟩ : Addr).add j) = some v) := by
    show ∀ _ _, _
    intro j v hj
    rw [List.getElem?_drop] at hj
    rw [addr_add]
    have hb2 : W2.drew.heap[g]? = w.heap[g]? := ((hg2.block g (by have := hg1.size; omega) (fun e => by injection e with e; omega)).trans (hbel g hgl))
    rw [World.cell?_of_block hb2]
    exact hcs _ v hj
  have HF3 : Hid ((i + 1) * 3 + (cs.drop (i * 3)).length ≤ (splice (cs.take (i * 3) ++ ZS) (i * 3) vs).length) := by show _ ≤ _; rw [hl2, hdl]; omega
  have HO3 : Hid (∀ v ∈ cs.drop (i * 3), v.oneCell' = true) := fun v hv => h1c v (List.mem_of_mem_drop hv)
  have HFIN := Lib.hid (splice_new cs vs ZS i c hcl hvl hi (by rw [hZl]; omega))
  have HLEN : Hid ((cs.take (i * 3) ++ vs ++ cs.drop (i * 3)).length = (c + 1) * 3) := by show _ = _; rw [List.length_append, List.length_append, htl, hvl, hdl]; omega
  have hz2 : ¬ ((i : Int) = (c : Int)) := by omega
  have hw1 : IntKind.i64.wrap ((i : Int) + 1) = (i : Int) + 1 := by rw [IntKind.wrap_i64]; omega
  have hw2 : IntKind.i64.wrap ((c : Int) + 1) = (c : Int) + 1 := by rw [IntKind.wrap_i64]; omega
  have hw3 : (c : Int) + 1 - (i : Int) = ((c + 1 - i : Nat) : Int) := by omega
  have hb1 : (0 : Int) ≤ (i : Int) + 1 := by omega
  have hin : i ≤ c := by omega
  have htn : ((i : Int) + 1).toNat = i + 1 := by omega
  have hb3 : (i : Int) ≤ (c : Int) + 1 := by omega
  have hbc : (c : Int) < (c : Int) + 1 := by omega
  have hGi : ¬ (G = i) := by omega
  have hGi1 : ¬ (G = i + 1) := by omega
  have hci : ¬ (c = i) := by omega
  unfold maxLen at hG63
  have hbase' : base ≤ h := by omega
  have hhs : w.heap.size ≤ h := by omega
  clear hrz hrunA hh1 hh2 hg1 hg2 hl2 hsz hold hcs hown hh hs ht hcl hdl htl hvs h1v h1c hi0 hz0 hzs hzb hik hG hZS hZl hW1 hbel hhd
  go_enter Try.func114, Try.ntmps114
  go_wp2_with (at_builtin; refine wpList_append_is _ _ 28 3 rfl rfl rfl rfl HRZ.out ?_)
  rw [HRA.out]
  go_wp2_with fail
  go_region_law (go_must (refine step_copyK (.tmp 50) (.tmp 53) 28 28 rfl rfl 58 3 Try.underlying28 HSZ.out h ((i + 1) * 3) (c + 1 - (i + 1)) (G - (i + 1)) ⟨g, i * 3, none⟩ (c - i) (c - i) (by simp [Act.eval, Act.put]) (by simp [Act.eval, Act.put]) _ 58 HH2.out (cs.drop (i * 3)) HN3.out HS3.out HF3.out HO3.out ?_); intro w3 hh3 hg3; have HH3 := Lib.hid hh3; have HG3 := Lib.hid hg3; clear hh3 hg3)
  all_goals
    go_wp2_with fail
    go_ret
    refine ⟨.slice (some ⟨h, 0, none⟩) (c + 1) G, ⟨HLEN.out, .inr ⟨h, G, _, rfl, hbase', HH3.out, hGn, by unfold maxLen; exact hG63, by simpa [length_splice _ _ _ HF3.out] using HL2.out, by simpa using HFIN.out⟩⟩, ?_, .inr ⟨h, rfl, hhs⟩, rfl⟩
    have a1 := HG1.out
    have a2 := HG2.out
    have a3 := HG3.out
    refine ⟨(a3.os.trans a2.os).trans a1.os, (a3.tape.trans a2.tape).trans a1.tape, (a3.output.trans a2.output).trans a1.output, Nat.le_trans a1.size (Nat.le_trans a2.size a3.size), fun q hq hne => ?_⟩
    have b1 := a1.block q hq hne
    have b2 := a2.block q (Nat.lt_of_lt_of_le hq a1.size) (fun e => by injection e with e; omega)
    have b3 := a3.block q (Nat.lt_of_lt_of_le hq (Nat.le_trans a1.size a2.size)) (fun e => by injection e with e; omega)
    exact b3.trans (b2.trans b1)

end Go.Proofs.Ytgpjcmplnigmcaa

namespace Go.Proofs.Ytgpjcmplnigmcaa
set_option linter.unusedVariables false
set_option linter.unusedSimpArgs false
open Go.RowKit

theorem eq_take {xs ys : List Int} {k : Nat} (hl : k < xs.length) (hl' : k < ys.length) (h : xs.take k = ys.take k) (he : xs[k] = ys[k]) : xs.take (k + 1) = ys.take (k + 1) := by
  rw [List.take_succ_eq_append_getElem hl, List.take_succ_eq_append_getElem hl', h, he]
theorem eq_not {xs ys : List Int} {k : Nat} (hl : k < xs.length) (hl' : k < ys.length) (he : ¬ xs[k] = ys[k]) : decide (xs = ys) = false := by
  rw [decide_eq_false_iff_not]; intro e; subst e; exact he rfl
theorem eq_len {xs ys : List Int} (h : ¬ xs.length = ys.length) : decide (xs = ys) = false := by
  rw [decide_eq_false_iff_not]; intro e; subst e; exact h rfl

set_option maxRecDepth 100000 in
set_option maxHeartbeats 800000 in
theorem equalInt_any (xs ys : List Int) (A : Option Addr) (n c : Nat) (B : Option Addr) (m d : Nat) (w : World) (lo hi lo' hi' : Nat) (hn : n ≤ 9223372036854775807) (hm : m ≤ 9223372036854775807) (h : Ints w lo hi A n xs) (h' : Ints w lo' hi' B m ys) :
    Calls Try.prog 122 #[.slice A n c, .slice B m d] w fun e w' => e = .returned (.bool (decide (xs = ys))) ∧ ∃ q, w' = w.drewN q := by
  have HI := Lib.hid h
  have HJ := Lib.hid h'
  have HL := Lib.hid h.1
  have HM := Lib.hid h'.1
  clear h h'
  by_cases hnm : n = m
  · subst hnm
    go_enter Try.func122, Try.ntmps122
    go_wp2_with fail
    go_loopw [13] (fun i wr => ∃ k : Nat, k ≤ n ∧ i = .int .i64 k ∧ Hid (xs.take k = ys.take k) ∧ ∃ q, wr = w.drewN q) (fun i _ => n - (intOf i).toNat)
    case atStart => exact ⟨0, Nat.zero_le _, rfl, rfl, 0, rfl⟩
    case round =>
      obtain ⟨k, hk, rfl, HT, q, rfl⟩ := hrel
      by_cases hlt : k < n
      · obtain ⟨b, o, hl, rfl, _, _, hc⟩ := HI.out.int hlt
        obtain ⟨b', o', hl', rfl, _, _, hc'⟩ := HJ.out.int hlt
        by_cases he : xs[k] = ys[k]
        · have HY := Lib.hid (eq_take hl hl' HT.out he)
          have hd : (xs[k] == ys[k]) = true := by simpa using he
          have hd2 : (!(xs[k] == ys[k])) = false := by rw [hd]; rfl
          have hd3 : (xs[k] != ys[k]) = false := by simpa using he
          clear he
          go_wp2_with fail
          go_quiet (fail)
          go_wp2_with fail
          go_roundw
          case rel => exact ⟨k + 1, by omega, by go_num, HY.out, q + nq, by first | rfl | (simp [World.drewN, Nat.add_assoc]; done)⟩
          case measure => simp [intOf]; omega
        · have HY := Lib.hid (eq_not hl hl' he)
          have hd : (xs[k] == ys[k]) = false := by simpa using he
          have hd2 : (!(xs[k] == ys[k])) = true := by rw [hd]; rfl
          have hd3 : (xs[k] != ys[k]) = true := by simpa using he
          clear he
          go_wp2_with fail
          go_quiet (fail)
          go_wp2_with fail
          go_ret
          exact ⟨ret_bool HY.out.symm, q + nq, by first | rfl | (simp [World.drewN, Nat.add_assoc]; done)⟩
      · have hkn : k = n := by omega
        subst hkn
        have HY : Hid (decide (xs = ys) = true) := by
          show _ = _
          have := HT.out
          rw [List.take_of_length_le (by rw [HL.out]; exact Nat.le_refl _), List.take_of_length_le (by rw [HM.out]; exact Nat.le_refl _)] at this
          exact decide_eq_true this
        go_wp2_with fail
        go_ret
        exact ⟨ret_bool HY.out.symm, q, rfl⟩
  · have HY := Lib.hid (eq_len (xs := xs) (ys := ys) (by rw [HL.out, HM.out]; exact hnm))
    have hq : (!((n : Int) == (m : Int))) = true := by simp; omega
    have hq2 : ((n : Int) != (m : Int)) = true := by simp; omega
    clear hnm
    go_enter Try.func122, Try.ntmps122
    go_wp2_with fail
    go_ret
    exact ⟨ret_bool HY.out.symm, 0, rfl⟩

/-- a row in ascending order -/
def srt (xs : List Int) : List Int := xs.mergeSort fun x y => decide (x ≤ y)
theorem srt_len (xs : List Int) : (srt xs).length = xs.length := by unfold srt; simp
theorem sortInt_row (xs : List Int) (A : Option Addr) (n c base : Nat) (w : World) (hn20 : n ≤ 1048576) (h : w.ownsRow base 3 1 (.slice A n c) n (xs.flatMap ci)) :
    Calls Try.prog 103 #[.slice A n c] w fun e w' => e = .returned (.tuple #[]) ∧ w'.ownsRow base 3 1 (.slice A n c) n ((srt xs).flatMap ci) ∧ Below base w w' := by
  have hl : xs.length = n := by
    have := h.1
    rw [flat_len ci 1 ci_len] at this
    omega
  rcases Nat.eq_zero_or_pos n with h0 | h0
  · subst h0
    have hx : xs = [] := List.eq_nil_of_length_eq_zero hl
    subst hx
    refine (Try.slices_Sort_int_none A c w).mono ?_
    rintro e w' ⟨rfl, rfl⟩
    exact ⟨rfl, by unfold srt; simpa using h, Below.refl _ _⟩
  · rcases h.2 with ⟨e1, -⟩ | ⟨g, cap, cur, e1, hb, hh, hn, hm, hs, ht⟩
    · injection e1 with _ e2 _; omega
    · injection e1 with e1 e2 e3
      subst e1 e3
      subst hl
      have hlt : g < w.heap.size := by
        rcases Nat.lt_or_ge g w.heap.size with hlt | hge
        · exact hlt
        · rw [Array.getElem?_eq_none hge] at hh; cases hh
      have ht' : cur.toList.take xs.length = xs.map (Value.int .i64) := by
        rw [Nat.mul_one] at ht
        rw [ht, flat_ci]
      refine (Try.slices_Sort_int g 0 c xs w (holds_of_blockI hh ht') hlt (by omega)).mono ?_
      rintro e w' ⟨rfl, q, os, rfl⟩
      have h1 := ownsRow_sortedI (base := base) (n := q) (os := os) (srt_len xs) hb hh hn hm hs
      rw [flat_ci]
      refine ⟨rfl, h1, ?_⟩
      exact (Below.refl _ _).grown (grownBy_sortedI _) (by omega) (fun j hj => by injection hj with hj; omega)

end Go.Proofs.Ytgpjcmplnigmcaa

namespace Go.Proofs.Ytgpjcmplnigmcaa
set_option linter.unusedVariables false
set_option linter.unusedSimpArgs false
open Go.RowKit

theorem insert_any (cs vs : List Value) (A : Option Addr) (n c i vb base : Nat) (w : World) (hn : n ≤ 1000) (hi : i ≤ n) (hbase : base ≤ w.heap.size) (hown : w.ownsRow base 58 3 (.slice A n c) n cs) (hvl : vs.length = 3) (h1v : ∀ v ∈ vs, v.oneCell' = true) (h1c : ∀ v ∈ cs, v.oneCell' = true) (hvs : w.heap[vb]? = some (.cells vs.toArray 58 (0, 0))) (hvb : ownA A ≠ some vb) :
    Calls Try.prog 114 #[.slice A n c, .int .i64 i, .slice (some ⟨vb, 0, none⟩) 1 1] w fun e w' => InsR base w A n i cs vs e w' := by
  by_cases he : i = n
  · subst he
    exact insert_end cs vs A _ c vb base w hn hbase hown hvl h1v hvs
  · rcases hown.2 with ⟨e1, hn0⟩ | ⟨g, cap, cur, e1, hb, hh, _⟩
    · omega
    · have e2 := e1
      injection e2 with e2 _ e3
      subst e2 e3
      by_cases hr : n + 1 ≤ c
      · exact insert_room cs vs g n c i vb base w hn (by omega) hr hown hvl h1v h1c hvs (fun e => hvb (by rw [e]; rfl))
      · exact insert_new cs vs g n c i vb base w hn (by omega) (by omega) hbase hown hvl h1v h1c hvs

theorem D.ownL.app_inv {w : World} : ∀ {a b : List D} {F : List Nat} {vs : List Value}, D.ownL w (a ++ b) F vs → ∃ x y F1 F2, vs = x ++ y ∧ F = F1 ++ F2 ∧ D.ownL w a F1 x ∧ D.ownL w b F2 y
  | [], b, F, vs, h => ⟨[], vs, [], F, rfl, rfl, D.ownL.nil w, h⟩
  | d :: a, b, F, vs, h => by
    rw [List.cons_append] at h
    unfold D.ownL at h
    obtain ⟨v, r, F1, F2, rfl, rfl, h3, h4⟩ := h
    obtain ⟨x, y, G1, G2, rfl, rfl, k1, k2⟩ := D.ownL.app_inv h4
    exact ⟨v :: x, y, F1 ++ G1, G2, rfl, by simp, D.ownL.cons h3 k1, k2⟩
theorem D.own.one {w : World} : ∀ {d : D} {F : List Nat} {v : Value}, D.own w d F v → v.oneCell' = true
  | .int n, F, v, h => by unfold D.own at h; rw [h.2]; rfl
  | .str s, F, v, h => by unfold D.own at h; rw [h.2.1]; rfl
  | .bool b, F, v, h => by unfold D.own at h; rw [h.2]; rfl
  | .arr m n es, F, v, h => by unfold D.own at h; obtain ⟨A, c, vs, F', rfl, _⟩ := h; rfl
theorem D.ownL.one {w : World} : ∀ {ds : List D} {F : List Nat} {vs : List Value}, D.ownL w ds F vs → ∀ u ∈ vs, u.oneCell' = true
  | [], F, vs, h, u, hu => by unfold D.ownL at h; rw [h.2] at hu; cases hu
  | d :: ds, F, vs, h, u, hu => by
    unfold D.ownL at h
    obtain ⟨v, r, F1, F2, rfl, rfl, h3, h4⟩ := h
    rcases List.mem_cons.1 hu with rfl | hu
    · exact h3.one
    · exact D.ownL.one h4 u hu

/-- a row of objects into which one more has been inserted -/
theorem Grow.ins {w wl w' : World} {base n i : Nat} {A : Option Addr} {c : Nat} {os : List ObjD} {o : ObjD} {vs cs : List Value} {F G : List Nat} {e : Ending} (hn : os.length = n) (hi : i ≤ n)
    (h1 : w.ownsRow base 58 3 (.slice A n c) n cs) (h2 : D.ownL w (os.flatMap fObject) F cs) (h3 : F.Nodup) (h4 : ∀ g ∈ F, base ≤ g ∧ g < w.heap.size) (h5 : ∀ g, ownA A = some g → g ∉ F)
    (k2 : D.ownL w (fObject o) G vs) (k3 : G.Nodup) (k4 : ∀ g ∈ G, base ≤ g ∧ g < w.heap.size) (k5 : ∀ g, ownA A = some g → g ∉ G) (k6 : ∀ g ∈ G, g ∉ F)
    (hwl : ∃ ob, wl = w.alloc ob) (hr : InsR base wl A n i cs vs e w') :
    ∃ v', Grow w' base 58 3 v' (n + 1) ((os.take i ++ o :: os.drop i).flatMap fObject) ∧ wl.grownBy w' (ownA A) ∧ e = .returned v' := by
  obtain ⟨v', r1, r2, r3, rfl⟩ := hr
  obtain ⟨ob, rfl⟩ := hwl
  refine ⟨v', ?_, r2, rfl⟩
  have hsz : (w.alloc ob).heap.size = w.heap.size + 1 := by simp
  have hkeep : ∀ g, g < w.heap.size → ownA A ≠ some g → w'.heap[g]? = w.heap[g]? := fun g hg hne =>
    (r2.block g (by omega) (fun e => hne e.symm)).trans (Below.heap_alloc _ _ _ hg)
  have hsplit : os.flatMap fObject = (os.take i).flatMap fObject ++ (os.drop i).flatMap fObject := by rw [← List.flatMap_append, List.take_append_drop]
  rw [hsplit] at h2
  obtain ⟨x, y, F1, F2, rfl, rfl, a1, a2⟩ := D.ownL.app_inv h2
  have hxl : x.length = i * 3 := by rw [D.ownL.length a1, flat_lenG fObject 3 fObject_len, List.length_take, Nat.min_eq_left (by omega)]
  have e1 : (x ++ y).take (i * 3) = x := by rw [← hxl]; simp
  have e2 : (x ++ y).drop (i * 3) = y := by rw [← hxl]; simp
  rw [e1, e2] at r1
  have hkF1 : ∀ g ∈ F1, w'.heap[g]? = w.heap[g]? := fun g hg => hkeep g (h4 g (List.mem_append_left _ hg)).2 (fun e => h5 g e (List.mem_append_left _ hg))
  have hkF2 : ∀ g ∈ F2, w'.heap[g]? = w.heap[g]? := fun g hg => hkeep g (h4 g (List.mem_append_right _ hg)).2 (fun e => h5 g e (List.mem_append_right _ hg))
  have hkG : ∀ g ∈ G, w'.heap[g]? = w.heap[g]? := fun g hg => hkeep g (k4 g hg).2 (fun e => k5 g e hg)
  have hnd := List.nodup_append.1 h3
  refine ⟨x ++ vs ++ y, (F1 ++ G) ++ F2, r1, ?_, ?_, ?_, ?_⟩
  · rw [List.flatMap_append, List.flatMap_cons, ← List.append_assoc]
    exact D.ownL.app (D.ownL.app (D.ownL.keep _ F1 x hkF1 a1) (D.ownL.keep _ G vs hkG k2)) (D.ownL.keep _ F2 y hkF2 a2)
  · refine List.nodup_append.2 ⟨List.nodup_append.2 ⟨hnd.1, k3, fun a ha b hb e => ?_⟩, hnd.2.1, fun a ha b hb e => ?_⟩
    · subst e; exact k6 a hb (List.mem_append_left _ ha)
    · subst e
      rcases List.mem_append.1 ha with ha | ha
      · exact hnd.2.2 a ha a hb rfl
      · exact k6 a ha (List.mem_append_right _ hb)
  · intro g hg
    have hs := r2.size
    have key : base ≤ g ∧ g < w.heap.size := by
      rcases List.mem_append.1 hg with hg | hg
      · rcases List.mem_append.1 hg with hg | hg
        · exact h4 g (List.mem_append_left _ hg)
        · exact k4 g hg
      · exact h4 g (List.mem_append_right _ hg)
    exact ⟨key.1, by omega⟩
  · intro g hv hg
    rcases r3 with r3 | ⟨q, r3, hq⟩
    · rw [r3] at hv
      rcases List.mem_append.1 hg with hg | hg
      · rcases List.mem_append.1 hg with hg | hg
        · exact h5 g hv (List.mem_append_left _ hg)
        · exact k5 g hv hg
      · exact h5 g hv (List.mem_append_right _ hg)
    · rw [r3] at hv
      injection hv with hv
      subst hv
      have key : q < w.heap.size := by
        rcases List.mem_append.1 hg with hg | hg
        · rcases List.mem_append.1 hg with hg | hg
          · exact (h4 q (List.mem_append_left _ hg)).2
          · exact (k4 q hg).2
        · exact (h4 q (List.mem_append_right _ hg)).2
      omega

theorem sameB_kind {a b : ObjD} (h : ¬ a.kind = b.kind) : sameB a b = false := by unfold sameB; rw [decide_eq_false h]; rfl
theorem sameB_links {a b : ObjD} (h : ¬ a.links = b.links) : sameB a b = false := by unfold sameB; rw [decide_eq_false h]; simp
theorem sameB_text {a b : ObjD} (h1 : a.kind = b.kind) (h2 : a.links = b.links) : sameB a b = (a.text.toList == b.text.toList) := by
  unfold sameB; rw [decide_eq_true h1, decide_eq_true h2, ByteArray.toList_eq, ByteArray.toList_eq]; rfl

set_option maxRecDepth 100000 in
set_option maxHeartbeats 800000 in
theorem implSame_any (k1 : Int) (l1 : List Int) (t1 : ByteArray) (A : Option Addr) (n c : Nat) (k2 : Int) (l2 : List Int) (t2 : ByteArray) (B : Option Addr) (m d : Nat) (w : World) (lo hi lo' hi' : Nat) (hh : hi ≤ w.heap.size) (hh' : hi' ≤ w.heap.size) (h : D.rd w lo hi (intsD l1) (.slice A n c)) (h' : D.rd w lo' hi' (intsD l2) (.slice B m d)) :
    Calls Try.prog 113 #[.agg #[.int .i64 k1, .slice A n c, .string t1], .agg #[.int .i64 k2, .slice B m d, .string t2]] w fun e w' => e = .returned (.bool (sameB ⟨k1, l1, t1⟩ ⟨k2, l2, t2⟩)) ∧ Below w.heap.size w w' := by
  have hn : n ≤ 9223372036854775807 := by have := h.len; omega
  have hm : m ≤ 9223372036854775807 := by have := h'.len; omega
  have HB : Hid (Below w.heap.size w ((w.alloc (.cells #[.int .i64 k1, .slice A n c, .string t1] 58)).alloc (.cells #[.int .i64 k2, .slice B m d, .string t2] 58))) := ((Below.refl _ _).alloc (Nat.le_refl _) _).alloc (by simp) _
  have HI := Lib.hid (h.ints.below HB.out hh)
  have HJ := Lib.hid (h'.ints.below HB.out hh')
  clear h h'
  by_cases hk : k1 = k2
  · have hkb : (k1 == k2) = true := by simp [hk]
    by_cases hl : l1 = l2
    · have hlb : decide (l1 = l2) = true := decide_eq_true hl
      have HF := Lib.hid (sameB_text (a := ⟨k1, l1, t1⟩) (b := ⟨k2, l2, t2⟩) hk hl)
      clear hk hl
      go_enter Try.func113, Try.ntmps113
      go_wp2_with fail
      refine (equalInt_any l1 l2 A n c B m d _ lo hi lo' hi' hn hm HI.out HJ.out).mono ?_
      rintro e w2 ⟨rfl, q, rfl⟩
      rw [hlb]
      go_wp2_with fail
      go_ret
      exact ⟨by rw [HF.out]; rfl, below_drewN HB.out q⟩
    · have hlb : decide (l1 = l2) = false := decide_eq_false hl
      have HF := Lib.hid (sameB_links (a := ⟨k1, l1, t1⟩) (b := ⟨k2, l2, t2⟩) hl)
      clear hk hl
      go_enter Try.func113, Try.ntmps113
      go_wp2_with fail
      refine (equalInt_any l1 l2 A n c B m d _ lo hi lo' hi' hn hm HI.out HJ.out).mono ?_
      rintro e w2 ⟨rfl, q, rfl⟩
      rw [hlb]
      go_wp2_with fail
      go_ret
      exact ⟨by rw [HF.out]; rfl, below_drewN HB.out q⟩
  · have hkb : (k1 == k2) = false := by simp [hk]
    have HF := Lib.hid (sameB_kind (a := ⟨k1, l1, t1⟩) (b := ⟨k2, l2, t2⟩) hk)
    clear hk
    go_enter Try.func113, Try.ntmps113
    go_wp2_with fail
    go_ret
    exact ⟨by rw [HF.out]; rfl, HB.out⟩

end Go.Proofs.Ytgpjcmplnigmcaa
