/-
  The walk of the program's byId: a map from ids to the objects of some lists; an earlier list counts. Condition: valid objects; few of them.
-/
import Derived.Test.YtnaeglfochnikaaGreatZ9
import Derived.Test.YtnaeglfochnikaaGreatStorV
import Derived.Test.YtnaeglfochnikaaGreatZ8
import Derived.Maps.OwnIn
namespace Go.Proofs.YtnaeglfochnikaaGreat
set_option linter.unusedVariables false
set_option linter.unusedSimpArgs false
open Go.RowKit Go.Shelf

attribute [local go_sem] Oper.semAt_some

/-- the objects of a list are put in, one after the other -/
def setL (M : Int → Option ObjD) (os : List ObjD) : Int → Option ObjD := os.foldl (fun M o => fun j => if j = idB o then some o else M j) M
theorem setL_take {M : Int → Option ObjD} {os : List ObjD} {k : Nat} (h : k < os.length) : setL M (os.take (k + 1)) = fun j => if j = idB os[k] then some os[k] else setL M (os.take k) j := by
  unfold setL
  rw [List.take_succ_eq_append_getElem h, List.foldl_append]; rfl
/-- the map that byId makes of the lists at some places -/
def byL {N : Nat} (oss : Fin N → List ObjD) (pre : List (Fin N)) : Int → Option ObjD := pre.foldl (fun M j => setL M (oss j)) (fun _ => none)
theorem byL_snoc {N : Nat} (oss : Fin N → List ObjD) (pre : List (Fin N)) (x : Fin N) : byL oss (pre ++ [x]) = setL (byL oss pre) (oss x) := by simp [byL]

/-- C holds the objects of M as values -/
def RdC (w : World) (lo hi : Nat) (C : Int → Option Value) (M : Int → Option ObjD) : Prop :=
  ∀ i, (M i = none → C i = none) ∧ ∀ o, M i = some o → ∃ A n c, C i = some (.agg #[.int .i64 o.kind, .slice A n c, .string o.text]) ∧ D.rd w lo hi (intsD o.links) (.slice A n c)
theorem RdC.none (w : World) (lo hi : Nat) : RdC w lo hi (fun _ => none) (fun _ => none) := fun i => ⟨fun _ => rfl, fun o h => by cases h⟩
theorem RdC.set {w : World} {lo hi : Nat} {C : Int → Option Value} {M : Int → Option ObjD} (h : RdC w lo hi C M) (id : Int) (o : ObjD) {A : Option Addr} {n c : Nat} (hr : D.rd w lo hi (intsD o.links) (.slice A n c)) :
    RdC w lo hi (fun j => if j = id then some (.agg #[.int .i64 o.kind, .slice A n c, .string o.text]) else C j) (fun j => if j = id then some o else M j) := by
  intro i
  by_cases e : i = id
  · simp only [if_pos e]
    refine ⟨fun h => (by cases h), fun o' h => ?_⟩
    injection h with h; subst h
    exact ⟨A, n, c, rfl, hr⟩
  · simp only [if_neg e]
    exact h i
theorem RdC.below {w w' : World} {lo hi B : Nat} {C : Int → Option Value} {M : Int → Option ObjD} (h : RdC w lo hi C M) (hb : Below B w w') (hB : hi ≤ B) : RdC w' lo hi C M := fun i =>
  ⟨(h i).1, fun o ho => by obtain ⟨A, n, c, h1, h2⟩ := (h i).2 o ho; exact ⟨A, n, c, h1, h2.below hb hB⟩⟩
/-- block b is a map of objects that reads as M -/
def OMap (w : World) (lo hi b : Nat) (M : Int → Option ObjD) : Prop := ∃ C n, MapI Tryz.prog 3 w b n C ∧ RdC w lo hi C M

theorem cell_putObj_ne {W : World} {l : Nat} {o : Obj} {p : Addr} (h : p.block ≠ l) : (W.putObj l o).cell? p = W.cell? p := by
  unfold World.cell?; rw [World.putObj_heap_other h]
theorem cell_grown {W W' : World} {row : Option Nat} (hg : W.grownBy W' row) {p : Addr} (hp : p.block < W.heap.size) (hne : some p.block ≠ row) : W'.cell? p = W.cell? p := by
  unfold World.cell?; rw [hg.block p.block hp hne]
theorem keepsFrom_below {B : Nat} {W W' : World} (h : Below W.heap.size W W') : KeepsFrom B W W' := KeepsFrom.of_grownBy (grown_none h none) (fun _ e => by cases e)

/-- the call of id in the round, and what may then be stored -/
theorem idSt (o : ObjD) (A : Option Addr) (n c : Nat) (w w1 : World) (lo hi p m X : Nat) (C : Int → Option Value) (L : Value) (hh : hi ≤ w1.drew.heap.size) (hv : objB o = true) (h : D.rd w1.drew lo hi (intsD o.links) (.slice A n c))
    (k0 : w1.cell? ⟨p, 0, none⟩ = some (.int .i64 o.kind)) (k1 : w1.cell? ⟨p, 1, none⟩ = some (.slice A n c)) (k2 : w1.cell? ⟨p, 2, none⟩ = some (.string o.text)) (lp : p < w1.heap.size)
    (e1 : w1.cell? ⟨X + 1, 0, none⟩ = some (.map (some X))) (e2 : w1.cell? ⟨X + 1 + 1, 0, none⟩ = some L) (lq : X + 1 + 1 < w1.heap.size) (hb1 : Below w.heap.size w w1)
    (hM : MapI Tryz.prog 3 w1.drew X m C) (hmx : m < maxLen) :
    Calls Tryz.prog 73 #[.agg #[.int .i64 o.kind, .slice A n c, .string o.text]] w1.drew fun e w2 => e = .returned (.int .i64 (idB o)) ∧
      (w2.cell? ⟨p, 0, none⟩ = some (.int .i64 o.kind) ∧ w2.cell? ⟨p, 1, none⟩ = some (.slice A n c) ∧ w2.cell? ⟨p, 2, none⟩ = some (.string o.text)) ∧ w2.cell? ⟨X + 1, 0, none⟩ = some (.map (some X)) ∧ w2.cell? ⟨X + 1 + 1, 0, none⟩ = some L ∧
      Hid (Below w.heap.size w w2) ∧ X + 1 + 1 < w2.heap.size ∧ ∃ w3, (Instr.mapUpdate 68 (.map (some X)) (.int .i64 (idB o)) (.agg #[.int .i64 o.kind, .slice A n c, .string o.text])).run Tryz.prog w2 = .ok () w3 ∧
        Hid (MapI Tryz.prog 3 w3 X (m + 1) (fun j => if j = idB o then some (.agg #[.int .i64 o.kind, .slice A n c, .string o.text]) else C j)) ∧ Hid (w2.grownBy w3 (some X)) := by
  refine (objId_any o.kind o.links o.text A n c _ lo hi hh hv h).mono ?_
  rintro e w2 ⟨rfl, hb2'⟩
  have hb2 : Below w1.heap.size w1 w2 := below_of_drew hb2'
  have hM2 : MapI Tryz.prog 3 w2 X m C := hM.kept (grown_none hb2' none) (by simp)
  have hbd := idB_bd hv
  have hwf : (Lit.int .i64 (idB o)).wf = true := WalkArith.wf_i64 (by omega)
  obtain ⟨w3, hrun, hM3, hg3⟩ := hM2.set (t := 68) Tryz.underlying3 Tryz.underlying68 hmx hwf (.agg #[.int .i64 o.kind, .slice A n c, .string o.text])
  exact ⟨rfl, ⟨(hb2.cell lp).trans k0, (hb2.cell lp).trans k1, (hb2.cell lp).trans k2⟩, (hb2.cell (p := ⟨X + 1, 0, none⟩) (Nat.lt_of_succ_lt lq)).trans e1, (hb2.cell (p := ⟨X + 1 + 1, 0, none⟩) lq).trans e2, hb1.trans (hb2.mono hb1.size),
    Nat.lt_of_lt_of_le lq hb2.size, w3, hrun, hM3, hg3⟩

set_option maxRecDepth 100000 in
set_option maxHeartbeats 4000000 in
theorem byId_any (N b cap : Nat) (As : Fin N → Option Addr) (ns cs : Fin N → Nat) (oss : Fin N → List ObjD) (hN : N ≤ 1000) (w : World) (lo hi : Nat) (hh : hi ≤ w.heap.size) (hb : b < w.heap.size)
    (hv : ∀ x, ∀ o ∈ oss x, objB o = true) (hlen : ∀ x, (oss x).length ≤ 1000) (hr : ∀ x, D.rd w lo hi (dObjects (oss x)) (.slice (As x) (ns x) (cs x)))
    (hc : ∀ (j : Nat) (h : j < N), w.cell? ⟨b, j, none⟩ = some (.slice (As ⟨j, h⟩) (ns ⟨j, h⟩) (cs ⟨j, h⟩))) :
    Calls Tryz.prog 43 #[.slice (some ⟨b, 0, none⟩) N cap] w fun e w' => e = .returned (.map (some w.heap.size)) ∧ OMap w' lo hi w.heap.size (byL oss (bk N 0)) ∧ Below w.heap.size w w' := by
  refine (callsIn_wide (n := 5)).1 ?_
  have hmm := @run_makeMap Tryz.prog
  have HR : Hid (∀ x, D.rd w lo hi (dObjects (oss x)) (.slice (As x) (ns x) (cs x))) := hr
  have HV : Hid (∀ x, ∀ o ∈ oss x, objB o = true) := hv
  have HL : Hid (∀ x, (oss x).length ≤ 1000) := hlen
  clear hr hv hlen
  refine callsIn_of_wp_marks Tryz.func43 rfl trivial ?_ rfl
  simp only [Tryz.ntmps43, List.size_toArray, List.length_cons, List.length_nil, Nat.reduceAdd, Nat.reduceSub, Array.replicate_succ, Array.replicate_zero, List.push_toArray, List.append_toArray, List.nil_append, List.cons_append]
  gi_wp2_with (refine ⟨trivial, ?_⟩; gi_at_call 74; refine (back_in Fence.wide _ trivial rfl _ _ _ _).mono ?_; rintro e w' ⟨rfl, rfl⟩)
  obtain ⟨W0, hW0⟩ : ∃ W0, ((w.alloc (Obj.map #[] 0)).alloc (Obj.cells #[Value.map (some w.heap.size)] 68)).alloc (Obj.cells #[Value.slice (some ⟨b, 0, none⟩) N cap] 101) = W0 := ⟨_, rfl⟩
  have hs0 : W0.heap.size = w.heap.size + 1 + 1 + 1 := by rw [← hW0]; simp
  have hB0 : Below w.heap.size w W0 := by rw [← hW0]; exact (((Below.refl _ w).alloc (Nat.le_refl _) _).alloc (by simp) _).alloc (by simp; omega) _
  have hm0 : MapI Tryz.prog 3 W0 w.heap.size 0 (fun _ => none) := by rw [← hW0]; exact ((MapI.made w _ _).alloc _).alloc _
  have cS : W0.cell? ⟨w.heap.size + 1, 0, none⟩ = some (.map (some w.heap.size)) := by
    rw [← hW0]
    have h1 := ((Boxed.new (w.alloc (Obj.map #[] 0)) 68 (.map (some w.heap.size))).alloc (Obj.cells #[Value.slice (some ⟨b, 0, none⟩) N cap] 101)).cell
    rw [World.size_alloc] at h1
    exact h1
  have cN : W0.cell? ⟨w.heap.size + 1 + 1, 0, none⟩ = some (.slice (some ⟨b, 0, none⟩) N cap) := by
    rw [← hW0]
    have h1 := (Boxed.new ((w.alloc (Obj.map #[] 0)).alloc (Obj.cells #[Value.map (some w.heap.size)] 68)) 101 (.slice (some ⟨b, 0, none⟩) N cap)).cell
    rw [World.size_alloc, World.size_alloc] at h1
    exact h1
  rw [hW0]
  have hcW : ∀ (j : Nat) (h : j < N), W0.cell? ⟨b, j, none⟩ = some (.slice (As ⟨j, h⟩) (ns ⟨j, h⟩) (cs ⟨j, h⟩)) := fun j h => (hB0.cell (p := ⟨b, j, none⟩) hb).trans (hc j h)
  clear hc hW0
  refine wpIn_rangeFunc_ownG rfl (by omega) (gf := 93) (lb := #[.pointer (some ⟨w.heap.size + 1 + 1, 0, none⟩)]) rfl trivial (enters_of Tryz.func93 (by kernel_rfl) rfl)
    (back_stops Fence.wide _ trivial rfl (by omega) (w.heap.size + 1 + 1) w.heap.size b N cap (fun x => .slice (As x) (ns x) (cs x)) (by omega) hb (fun _ => rfl) W0 (by omega) (by omega) cN hcW)
    KpB.trans (fun W l o o' hl ho hoc _ => ⟨belowK_b (w := W0) (by omega) W l o o' hl ho hoc (by assumption), cell_putObj_ne (by show w.heap.size + 1 + 1 ≠ l; omega)⟩) (Below.refl _ _) (fun _ => rfl)
    (fun pre W => ((W.cell? ⟨w.heap.size + 1, 0, none⟩ = some (.map (some w.heap.size)) ∧ W.cell? ⟨w.heap.size + 1 + 1, 0, none⟩ = some (.slice (some ⟨b, 0, none⟩) N cap)) ∧ ∃ C m, m ≤ pre.length * 1000 ∧ MapI Tryz.prog 3 W w.heap.size m C ∧ RdC w lo hi C (byL oss pre)) ∧ Below w.heap.size w W)
    (fun _ _ _ => False)
    (OwnFrom.and (fun s A B row hs hg hr => by
      obtain ⟨⟨h1, h2⟩, C, m, h3, h4, h5⟩ := hs
      exact ⟨⟨cell_kept h1 hg (fun r e => (hr r e).2), cell_kept h2 hg (fun r e => (hr r e).2)⟩, C, m, h3, h4.kept hg (fun e => by have := (hr _ e.symm).1; omega), h5⟩) (ownFrom_below (Nat.le_refl _) (by omega)))
    (fun _ _ _ _ _ hs _ _ => hs)
    ⟨⟨⟨cS, cN⟩, _, 0, Nat.zero_le _, hm0, RdC.none _ _ _⟩, hB0⟩
    (fun x => { tmps := #[.slice (some ⟨b, 0, none⟩) N cap, undef, .map none, .pointer (some ⟨w.heap.size + 1, 0, none⟩), undef, .slice (As x) (ns x) (cs x), undef, undef, .map (some w.heap.size), .slice (some ⟨b, 0, none⟩) N cap, .func (.func 93) #[] #[.pointer (some ⟨w.heap.size + 1 + 1, 0, none⟩)], .int .i64 (x.val : Int), .slice (As x) (ns x) (cs x), undef, undef, undef, undef, undef, undef, undef, undef, undef, undef, undef, undef], defers := [] }) ?assign ?body ?done ?stop
  case assign =>
    intro l x W K hK
    gi_wp2
    exact hK
  case body =>
    rintro l pre x W ⟨⟨⟨hc1, hc2⟩, C, m, hm, hM, hC⟩, hB⟩ hlt
    have hrx := HR.out x
    have hlx := HL.out x
    have hvx := HV.out x
    have hbs := byL_snoc oss pre x
    generalize hos : oss x = os at hrx hlx hvx hbs
    generalize hAx : As x = A at hrx
    generalize hnx : ns x = n at hrx
    generalize hcx : cs x = c at hrx
    have HN := Lib.hid hrx.len.1
    have HI := Lib.hid hrx
    have HVO := Lib.hid hvx
    have HS := Lib.hid hbs
    have hn1 : n ≤ 1000 := by rw [HN.out]; exact hlx
    have HBW := Lib.hid hB
    have HM := Lib.hid hM
    have HC := Lib.hid hC
    have hbsz := hB.size
    have hmW := hM.lt
    have hWs : w.heap.size + 1 + 1 < W.heap.size := by
      rcases Nat.lt_or_ge (w.heap.size + 1 + 1) W.heap.size with h | h
      · exact h
      · have h9 := hc2
        unfold World.cell? at h9
        rw [Array.getElem?_eq_none h] at h9
        simp at h9
    clear hrx hvx hbs hB hM hC hos hAx hnx hcx HR HV HL hcW cS cN hm0 hB0
    gi_wp2
    gi_loopw [15] (fun i wr => ∃ (k m' : Nat) (C' : Int → Option Value), k ≤ n ∧ i = .int .i64 k ∧ m' ≤ m + k ∧ Hid (MapI Tryz.prog 3 wr w.heap.size m' C') ∧ Hid (RdC w lo hi C' (setL (byL oss pre) (os.take k))) ∧
      wr.cell? ⟨w.heap.size + 1, 0, none⟩ = some (.map (some w.heap.size)) ∧ wr.cell? ⟨w.heap.size + 1 + 1, 0, none⟩ = some (.slice (some ⟨b, 0, none⟩) N cap) ∧ Hid (KeepsFrom W0.heap.size W wr) ∧ Hid (Below w.heap.size W wr) ∧ W.heap.size ≤ wr.heap.size) (fun i _ => n - (intOf i).toNat)
    case atStart => exact ⟨0, m, C, Nat.zero_le _, rfl, by omega, HM, HC, hc1, hc2, KeepsFrom.refl _ _, Below.refl _ _, Nat.le_refl _⟩
    case round =>
      obtain ⟨k, m', C', hk, rfl, hm', HM1, HC1, d1, d2, HK, HB1, hsz1⟩ := hrel
      by_cases hkn : k < n
      · have HBR : Hid (Below w.heap.size w wr) := HBW.out.trans HB1.out
        have hwr := HBR.out.size
        have hbX : w.heap.size + 1 + 1 < wr.heap.size := by omega
        have HIR := Lib.hid (HI.out.below HBR.out hh)
        obtain ⟨b1, o1, hl, A1, n1, c1, rfl, _, hbh, hc0, hc1', hc2', ⟨hn1', hm1, hr1⟩, ht2⟩ := rd_Object HIR.out hkn
        have hvo := HVO.out _ (List.getElem_mem hl)
        have hst := setL_take (M := byL oss pre) hl
        have HRB : Hid (D.rd w lo hi (intsD os[k].links) (.slice A1 n1 c1)) := by
          obtain ⟨b2, o2, hl2, A2, n2, c2, e2, _, _, g0, g1, g2, ⟨_, _, gr⟩, _⟩ := rd_Object HI.out hkn
          injection e2 with e2
          injection e2 with e3 e4
          subst e3 e4
          have g1' := (HBR.out.cell (p := ⟨b1, o1 + k * 3 + 1, none⟩) (by show b1 < _; omega)).trans g1
          rw [hc1'] at g1'
          injection g1' with g1'
          injection g1' with q1 q2 q3
          subst q1 q2 q3
          exact gr
        obtain ⟨id, hid⟩ : ∃ id, idB os[k] = id := ⟨_, rfl⟩
        have hbd := idB_bd hvo
        rw [hid] at hbd hst
        have hwf : (Lit.int .i64 id).wf = true := WalkArith.wf_i64 (by omega)
        have HST := Lib.hid hst
        have HID := Lib.hid hid
        have HVK := Lib.hid hvo
        obtain ⟨p, hp⟩ : ∃ p, p = wr.heap.size := ⟨_, rfl⟩
        obtain ⟨w1, hw1⟩ : ∃ w1, w1 = wr.alloc (.cells #[.int .i64 os[k].kind, .slice A1 n1 c1, .string os[k].text] 52) := ⟨_, rfl⟩
        have hb1 : Below wr.heap.size wr w1 := by rw [hw1]; exact (Below.refl _ _).alloc (Nat.le_refl _) _
        have hhr : hi ≤ wr.heap.size := by omega
        have HR1 := Lib.hid ((hr1.below hb1 hhr).drew)
        have HX : w1.heap[p]? = some (.cells #[.int .i64 os[k].kind, .slice A1 n1 c1, .string os[k].text] 52 (0, 0)) := by rw [hw1, hp]; exact heap_alloc_new wr _
        have k0 : w1.cell? ⟨p, 0, none⟩ = some (.int .i64 os[k].kind) := cell_of_row _ _ _ _ _ _ HX
        have k1 : w1.cell? ⟨p, 1, none⟩ = some (.slice A1 n1 c1) := cell_of_row _ _ _ _ _ _ HX
        have k2 : w1.cell? ⟨p, 2, none⟩ = some (.string os[k].text) := cell_of_row _ _ _ _ _ _ HX
        have lp : p < w1.heap.size := hltS HX
        have e1 : w1.cell? ⟨w.heap.size + 1, 0, none⟩ = some (.map (some w.heap.size)) := (hb1.cell (p := ⟨w.heap.size + 1, 0, none⟩) (by show w.heap.size + 1 < _; omega)).trans d1
        have e2 : w1.cell? ⟨w.heap.size + 1 + 1, 0, none⟩ = some (.slice (some ⟨b, 0, none⟩) N cap) := (hb1.cell (p := ⟨w.heap.size + 1 + 1, 0, none⟩) hbX).trans d2
        have lq : w.heap.size + 1 + 1 < w1.heap.size := Nat.lt_of_lt_of_le hbX hb1.size
        have HB01 := Lib.hid hb1
        have hh1d : hi ≤ w1.drew.heap.size := Nat.le_trans hhr hb1.size
        have HM2 : Hid (MapI Tryz.prog 3 w1.drew w.heap.size m' C') := (HM1.out.kept (grown_none hb1 none) (by simp)).drewN 1
        have hpw : W.heap.size ≤ p := by omega
        have hmix : Tryz.prog.follows .mixedOrders = true := by kernel_rfl
        have hmx : m' < maxLen := by unfold maxLen; omega
        gi_wp2
        rw [← hw1, ← hp]
        clear hw1 HX hr1 hc0 hc1' hc2' hb1 d1 d2 hvo hst hid hp
        have HCALL := Lib.hid (idSt os[k] A1 n1 c1 wr w1 lo hi p m' w.heap.size C' (.slice (some ⟨b, 0, none⟩) N cap) hh1d HVK.out HR1.out k0 k1 k2 lp e1 e2 lq HB01.out HM2.out hmx)
        rw [HID.out] at HCALL
        gi_region_with_o (refine ⟨trivial, ?_⟩; gi_at_call 73; refine (CallsIn.inRound l (callsIn_wide.2 HCALL.out)).mono ?_; rintro e w2 ⟨rfl, ⟨g0, g1, g2⟩, f1, f2, HB02, lw2, w3, hrun, HM3, HG3⟩)
        all_goals gi_wp2
        all_goals exact ⟨⟨k + 1, m' + 1, _, by omega, by simp, by omega, HM3, by
            show RdC _ _ _ _ _
            rw [HST.out]
            exact HC1.out.set id os[k] HRB.out, (cell_grown HG3.out (Nat.lt_of_succ_lt lw2) (by simp)).trans f1, (cell_grown HG3.out lw2 (by simp; omega)).trans f2,
            (HK.out.trans (keepsFrom_below HB02.out)).trans (KeepsFrom.of_grownBy HG3.out (fun j e => by cases e; omega)),
            (bel_tr HB1.out hbsz HB02.out).grown HG3.out (Nat.le_of_lt (Nat.lt_of_succ_lt (Nat.lt_of_succ_lt lw2))) (fun j e => by cases e; exact Nat.le_refl _),
            Nat.le_trans hsz1 (Nat.le_trans HB02.out.size HG3.out.size)⟩, by simp [intOf]; omega⟩
      · have hkn' : k = n := by omega
        subst hkn'
        gi_wp2
        refine ⟨HK.out, ⟨HB1.out, d2.trans hc2.symm⟩, ⟨⟨d1, d2⟩, C', m', ?_, HM1.out, ?_⟩, HBW.out.trans HB1.out⟩
        · rw [List.length_append, List.length_singleton]; omega
        · have h9 := HC1.out
          rw [List.take_of_length_le (by rw [HN.out]; exact Nat.le_refl _)] at h9
          rw [HS.out]
          exact h9
  case done =>
    rintro D ys W hD rfl ⟨⟨⟨hc1, hc2⟩, C, m, hm, hM, hC⟩, hB⟩ hK
    gi_wp2
    refine ⟨by simp, .inl ⟨_, _, rfl, run_takeDeferred hK, ?_⟩⟩
    refine ⟨_, results_tmp rfl _ _ _, rfl, ?_, ?_⟩
    · exact ⟨C, m, hM.kept (grownBy_putObj' _ _ _) (fun e => by injection e with e; omega), hC.below (hB.trans (belowK_b (w := w) (Nat.le_refl _) W D _ _ (by omega) hK rfl rfl)) hh⟩
    · exact hB.trans (belowK_b (w := w) (Nat.le_refl _) W D _ _ (by omega) hK rfl rfl)
  case stop =>
    rintro D c pre W _ _ h _
    exact h.elim

end Go.Proofs.YtnaeglfochnikaaGreat
