/-
  The walk of the program's copyQuarantine: a quarantine in memory of its own. Condition: it is valid.
  The walks of the program's QuarantinePut, QuarantinePromote and QuarantineDiscard. No condition.
  The walk of the program's QuarantinePut. No condition.
-/
import Derived.Test.YtgpjcmplnigmcaaQuaV
namespace Go.Proofs.Ytgpjcmplnigmcaa
set_option linter.unusedVariables false
set_option linter.unusedSimpArgs false
open Go.RowKit

theorem QuaG.row {w : World} {base : Nat} {q : QuaD} {vm va : Value} (h : QuaG w base q vm va) : ∃ vs, w.ownsRow base 69 2 va q.areas.length vs := by
  obtain ⟨Fm, vs, Fa, h1, h2, h3, h4, h5, h6⟩ := h
  exact ⟨vs, h2⟩
theorem QuaG.kept {w w' : World} {base : Nat} {q : QuaD} {vm va : Value} {row : Option Nat} (h : QuaG w base q vm va) (hg : w.grownBy w' row) (hr : ∀ g, row = some g → g < base) : QuaG w' base q vm va := by
  obtain ⟨Fm, vs, Fa, h1, h2, h3, h4, h5, h6⟩ := h
  have hk : ∀ g ∈ Fm ++ Fa, w'.heap[g]? = w.heap[g]? := fun g hg' => hg.block g (h5 g hg').2 (fun e => by have := hr g e.symm; have := (h5 g hg').1; omega)
  refine ⟨Fm, vs, Fa, D.own.keep _ _ _ (fun g hg' => hk g (List.mem_append_left _ hg')) h1, h2.kept hg ?_, D.ownL.keep _ _ _ (fun g hg' => hk g (List.mem_append_right _ hg')) h3, h4, fun g hg' => ⟨(h5 g hg').1, Nat.lt_of_lt_of_le (h5 g hg').2 hg.size⟩, h6⟩
  rcases hv : va.ownBlock with _ | k
  · exact .inl rfl
  · refine .inr (fun e => ?_)
    have := hr k e.symm
    have := (h2.lt k hv).1; omega
theorem QuaG.set {w : World} {base : Nat} {q : QuaD} {vm va : Value} (h : QuaG w base q vm va) {g : Nat} (hg : g < base) (j : Nat) (u : Value) : QuaG (w.setCell ⟨g, j, none⟩ u) base q vm va := h.kept (set_grownL w g j u) (fun k hk => by injection hk with hk; omega)
theorem QuaG.low {w : World} {base base' : Nat} {q : QuaD} {vm va : Value} (h : QuaG w base q vm va) (hb : base' ≤ base) : QuaG w base' q vm va := by
  obtain ⟨Fm, vs, Fa, h1, h2, h3, h4, h5, h6⟩ := h
  refine ⟨Fm, vs, Fa, h1, ⟨h2.1, ?_⟩, h3, h4, fun g hg => ⟨Nat.le_trans hb (h5 g hg).1, (h5 g hg).2⟩, h6⟩
  rcases h2.2 with h | ⟨a1, a2, a3, a4, a5, a6⟩
  · exact .inl h
  · exact .inr ⟨a1, a2, a3, a4, Nat.le_trans hb a5, a6⟩

set_option maxRecDepth 100000 in
set_option maxHeartbeats 3200000 in
theorem copyQua_any (os : List ObjD) (zs : List AreaD) (A : Option Addr) (n c : Nat) (B : Option Addr) (m d : Nat) (w : World) (lo hi : Nat) (hh : hi ≤ w.heap.size) (hv : quaB ⟨os, zs⟩ = true) (h : D.rd w lo hi (dObjects os) (.slice A n c)) (h' : D.rd w lo hi (dAreas zs) (.slice B m d)) :
    Calls Try.prog 54 #[.agg #[.slice A n c, .slice B m d]] w fun e w' => ∃ C n' dc V m' cV, QuaG w' w.heap.size ⟨os, zs⟩ (.slice C n' dc) (.slice V m' cV) ∧ Below w.heap.size w w' ∧ e = .returned (.agg #[.slice C n' dc, .slice V m' cV]) := by
  obtain ⟨⟨v1, v2⟩, v3, v4⟩ := (quaB_iff _).1 hv
  obtain ⟨s1, s2, s3⟩ := (storeB_iff _).1 v3
  dsimp only at v1 v2 v3 v4 s1 s2 s3
  have hn20 : n ≤ 1048576 := by have := h.len.1; omega
  have hm20 : m ≤ 1000 := by have := h'.len.1; omega
  have HN := Lib.hid h.len.1
  have HLK : Hid (∀ o ∈ os, o.links.length ≤ 1048576) := Lib.hid fun o ho => by have := (objB_and (s1 o ho)).2.1; omega
  have HAV : Hid (∀ a ∈ zs, txnB a.txn = true ∧ storeB a.objs = true) := Lib.hid fun a ha => ⟨(v1 a ha).1, ((fullB_iff _).1 (v1 a ha).2).2⟩
  have HAA := Lib.hid v2
  have HMA := Lib.hid (mapA_areaO v2 (fun a ha => (v1 a ha).1))
  have HMT : Hid (∀ i, (areaO zs i).isSome = true → txnB i = true) := Lib.hid fun i hi => by
    obtain ⟨os, hos⟩ := Option.isSome_iff_exists.1 hi
    exact (v1 _ ((areaO_mem v2 i os).1 hos)).1
  obtain ⟨r, hr⟩ : ∃ r, r = w.heap.size := ⟨_, rfl⟩
  obtain ⟨r2, hr2⟩ : ∃ r2, r2 = w.heap.size + 1 := ⟨_, rfl⟩
  obtain ⟨w1, hw1⟩ : ∃ w1, w1 = (w.alloc (.cells #[.slice A n c, .slice B m d] 31)).alloc (.cells #[.slice none 0 0, .slice none 0 0] 31) := ⟨_, rfl⟩
  have hb1 : Below w.heap.size w w1 := by rw [hw1]; exact ((Below.refl _ _).alloc (Nat.le_refl _) _).alloc (by simp) _
  have hx1 : w1.heap[r]? = some (.cells #[.slice A n c, .slice B m d] 31 (0, 0)) := by rw [hw1, hr]; exact (Below.heap_alloc _ _ _ (by simp)).trans (heap_alloc_new w _)
  have hx2 : w1.heap[r2]? = some (.cells #[.slice none 0 0, .slice none 0 0] 31 (0, 0)) := by
    have := heap_alloc_new (w.alloc (.cells #[.slice A n c, .slice B m d] 31)) (.cells #[.slice none 0 0, .slice none 0 0] 31)
    rw [hw1, hr2]; simpa using this
  have k0 : w1.cell? ⟨r, 0, none⟩ = some (.slice A n c) := cell_of_row _ _ _ _ _ _ hx1
  have k1 : w1.cell? ⟨r, 1, none⟩ = some (.slice B m d) := cell_of_row _ _ _ _ _ _ hx1
  have k2 : w1.cell? ⟨r2, 0, none⟩ = some (.slice none 0 0) := cell_of_row _ _ _ _ _ _ hx2
  have k3 : w1.cell? ⟨r2, 1, none⟩ = some (.slice none 0 0) := cell_of_row _ _ _ _ _ _ hx2
  have kf0 : w1.frozen? ⟨r2, 0, none⟩ = false := frozen_of_row _ _ _ _ _ hx2
  have kf1 : w1.frozen? ⟨r2, 1, none⟩ = false := frozen_of_row _ _ _ _ _ hx2
  have lr := hltS hx1
  have ls := hltS hx2
  have hne : ¬ (r = r2) := by omega
  have hne2 : ¬ (r2 = r) := by omega
  have hrw2 : w.heap.size ≤ r2 := by omega
  have HJ1 := Lib.hid ((h.below hb1 hh).drew)
  have HI1 := Lib.hid ((h'.below hb1 hh).drew)
  have HB1 := Lib.hid hb1
  have hh1 : hi ≤ w1.drew.heap.size := Nat.le_trans hh hb1.size
  clear h h' hv v1 v2 v3 v4 s1 s2 s3 hb1 hx1 hx2
  go_enter Try.func54, Try.ntmps54
  go_upto_region 1 with (fail)
  rw [← hw1, ← hr2, ← hr]
  clear hw1 hr hr2
  have tok1 : True := trivial
  go_region_held3 (fun w' => w'.cell? ⟨r, 0, none⟩ = some (.slice A n c) ∧ w'.cell? ⟨r, 1, none⟩ = some (.slice B m d)) (go_keep)
    (first | (have _t := tok1; go_at_call 56; refine (copyObjs_row os A n c w1.drew lo hi hh1 hn20 HLK.out HJ1.out).mono ?_; rintro e w2 ⟨C, dc, hg2, hb2', rfl⟩; have hb2 := below_of_drew hb2'; have HO2 : Hid (Own w2 w1.heap.size (dObjects os) (.slice C n dc)) := Lib.hid (by have := hg2.own; unfold dObjects; rw [← HN.out]; exact this); have g0 : w2.cell? ⟨r, 0, none⟩ = some (.slice A n c) := (hb2.cell lr).trans k0; have g1 : w2.cell? ⟨r, 1, none⟩ = some (.slice B m d) := (hb2.cell lr).trans k1; have g2 : w2.cell? ⟨r2, 0, none⟩ = some (.slice none 0 0) := (hb2.cell ls).trans k2; have g3 : w2.cell? ⟨r2, 1, none⟩ = some (.slice none 0 0) := (hb2.cell ls).trans k3; have gf0 : w2.frozen? ⟨r2, 0, none⟩ = false := (hb2.frozen ls).trans kf0; have gf1 : w2.frozen? ⟨r2, 1, none⟩ = false := (hb2.frozen ls).trans kf1; have mr : r < w2.heap.size := Nat.lt_of_lt_of_le lr hb2.size; have ms : r2 < w2.heap.size := Nat.lt_of_lt_of_le ls hb2.size; have HI2 := Lib.hid (HI1.out.below hb2' hh1); have hh2 : hi ≤ w2.heap.size := Nat.le_trans hh1 hb2.size; have hs2 : w1.heap.size ≤ w2.heap.size := hb2.size; have HB2 := Lib.hid (bel_tr HB1.out (Nat.le_refl _) hb2); have tok2 : True := trivial; clear tok1 hb2 hb2' hg2) | (have _t := tok2; go_at_call 52; refine (areas_any zs A n c B m d w2 lo hi hh2 HAV.out HAA.out hm20 HI2.out).mono ?_; rintro e w3 ⟨b, hq3, hb3, rfl⟩; have h0 : w3.cell? ⟨r, 0, none⟩ = some (.slice A n c) := (hb3.cell mr).trans g0; have h1 : w3.cell? ⟨r, 1, none⟩ = some (.slice B m d) := (hb3.cell mr).trans g1; have h2 : w3.cell? ⟨r2, 0, none⟩ = some (.slice none 0 0) := (hb3.cell ms).trans g2; have h3 : w3.cell? ⟨r2, 1, none⟩ = some (.slice none 0 0) := (hb3.cell ms).trans g3; have hf0 : w3.frozen? ⟨r2, 0, none⟩ = false := (hb3.frozen ms).trans gf0; have hf1 : w3.frozen? ⟨r2, 1, none⟩ = false := (hb3.frozen ms).trans gf1; have qr : r < w3.heap.size := Nat.lt_of_lt_of_le mr hb3.size; have qs : r2 < w3.heap.size := Nat.lt_of_lt_of_le ms hb3.size; have HB3 := Lib.hid (bel_tr HB2.out (Nat.le_refl _) hb3); have HP3 := Lib.hid (QPre.before HO2.out hb3 hq3 (Nat.le_refl _) hs2); have hs3 : w1.heap.size ≤ w3.heap.size := Nat.le_trans hs2 hb3.size; have tok3 : True := trivial; clear tok2 hb3 hq3) | (have _t := tok3; go_at_call 55; refine (quaOf_any os (areaO zs) C n dc w1.heap.size b m w3 HMT.out hs3 HP3.out).mono ?_; rintro e w4 ⟨va, hq4, hb4, rfl⟩; obtain ⟨V, cV, rfl, -, -, -⟩ := Rd.of_own hq4.row.choose_spec; have i0 : w4.cell? ⟨r, 0, none⟩ = some (.slice A n c) := (hb4.cell qr).trans h0; have i1 : w4.cell? ⟨r, 1, none⟩ = some (.slice B m d) := (hb4.cell qr).trans h1; have i2 : w4.cell? ⟨r2, 0, none⟩ = some (.slice none 0 0) := (hb4.cell qs).trans h2; have i3 : w4.cell? ⟨r2, 1, none⟩ = some (.slice none 0 0) := (hb4.cell qs).trans h3; have if0 : w4.frozen? ⟨r2, 0, none⟩ = false := (hb4.frozen qs).trans hf0; have if1 : w4.frozen? ⟨r2, 1, none⟩ = false := (hb4.frozen qs).trans hf1; have ur : r < w4.heap.size := Nat.lt_of_lt_of_le qr hb4.size; have us : r2 < w4.heap.size := Nat.lt_of_lt_of_le qs hb4.size; have HB4 := Lib.hid (bel_tr HB3.out (Nat.le_refl _) hb4); have HQ4 := Lib.hid hq4; clear tok3 hb4 hq4))
  go_wp2_with fail
  refine bodyPost_ret (v := .agg #[.slice C n dc, .slice V (mapA (areaO zs)).length cV]) (by simp [results, Try.results54, go_sem, i2, i3, if0, if1]) rfl ?_
  refine ⟨C, n, dc, V, _, cV, ?_, (HB4.out.setCell hrw2 _).setCell hrw2 _, rfl⟩
  have hq := HQ4.out
  have e : (⟨os, mapA (areaO zs)⟩ : QuaD) = ⟨os, zs⟩ := by rw [HMA.out]
  rw [e] at hq
  exact ((hq.set ls _ _).set ls _ _).low HB1.out.size

end Go.Proofs.Ytgpjcmplnigmcaa

namespace Go.Proofs.Ytgpjcmplnigmcaa
set_option linter.unusedVariables false
set_option linter.unusedSimpArgs false
open Go.RowKit

/-- what is handed back: a quarantine in memory of its own, and a truth value -/
def QuaR (w : World) (q : QuaD) (b : Bool) (e : Ending) (w' : World) : Prop :=
  ∃ A n c V m d, QuaG w' w.heap.size q (.slice A n c) (.slice V m d) ∧ Below w.heap.size w w' ∧ e = .returned (.tuple #[.agg #[.slice A n c, .slice V m d], .bool b])
/-- the boxes of a quarantine and of a result -/
def Boxes (w : World) (r r2 : Nat) (A : Option Addr) (n c : Nat) (B : Option Addr) (m d : Nat) : Prop :=
  w.heap[r]? = some (.cells #[.slice A n c, .slice B m d] 31 (0, 0)) ∧ w.heap[r2]? = some (.cells #[.slice none 0 0, .slice none 0 0] 31 (0, 0))
section
variable {w w' : World} {r r2 : Nat} {A : Option Addr} {n c : Nat} {B : Option Addr} {m d : Nat}
theorem Boxes.fresh (h : Boxes w r r2 A n c B m d) (hb : Below w.heap.size w w') : Boxes w' r r2 A n c B m d := ⟨(hb.block r (hltS h.1)).trans h.1, (hb.block r2 (hltS h.2)).trans h.2⟩
theorem Boxes.grown {g : Nat} (h : Boxes w r r2 A n c B m d) (hg : w.grownBy w' (some g)) (h1 : r ≠ g) (h2 : r2 ≠ g) : Boxes w' r r2 A n c B m d :=
  ⟨(hg.block r (hltS h.1) (fun e => h1 (by injection e))).trans h.1, (hg.block r2 (hltS h.2) (fun e => h2 (by injection e))).trans h.2⟩
theorem Boxes.cells (h : Boxes w r r2 A n c B m d) : w.cell? ⟨r, 0, none⟩ = some (.slice A n c) ∧ w.cell? ⟨r, 1, none⟩ = some (.slice B m d) ∧ w.cell? ⟨r2, 0, none⟩ = some (.slice none 0 0) ∧ w.cell? ⟨r2, 1, none⟩ = some (.slice none 0 0) ∧ w.frozen? ⟨r2, 0, none⟩ = false ∧ w.frozen? ⟨r2, 1, none⟩ = false ∧ r < w.heap.size ∧ r2 < w.heap.size :=
  ⟨cell_of_row _ _ _ _ _ _ h.1, cell_of_row _ _ _ _ _ _ h.1, cell_of_row _ _ _ _ _ _ h.2, cell_of_row _ _ _ _ _ _ h.2, frozen_of_row _ _ _ _ _ h.2, frozen_of_row _ _ _ _ _ h.2, hltS h.1, hltS h.2⟩
end
theorem QuaG.nil (w : World) (base : Nat) : QuaG w base zQua (.slice none 0 0) (.slice none 0 0) :=
  ⟨[], [], [], by show D.own w (dObjects []) [] _; unfold dObjects D.own; exact ⟨none, 0, [], [], rfl, Nat.le_refl _, by omega, rfl, D.ownL.nil w, .inl ⟨rfl, rfl⟩⟩, World.ownsRow_nil _ _ _ _, D.ownL.nil w, List.nodup_nil, fun g h => (by cases h), fun g h => (by cases h)⟩
/-- how many entries a map has -/
theorem QMap.len {w : World} {base b n : Nat} {M : Int → Option (List ObjD)} (h : QMap w base b n M) (hM : ∀ i, (M i).isSome = true → txnB i = true) (ty : TypeId) :
    (Builtin.len_ #[76] ty #[.map (some b)]).run Try.prog w = .ok (.int .i64 ((mapA M).length : Nat)) w := by
  obtain ⟨C, F, h1, h2, h3, h4, h5⟩ := h
  have hCM : ∀ i, (C i).isSome = (M i).isSome := fun i => by
    rcases hm : M i with _ | os
    · rw [((h3 i).1 hm).1]; rfl
    · obtain ⟨A, m, c, hC, -⟩ := (h3 i).2 os hm
      rw [hC]; rfl
  obtain ⟨DD, hD, hsz, -⟩ := h1.keys Try.underlying3 (fun i hi => hM i (by rw [← hCM i]; exact hi))
  have := hD.len (t := 76) Try.underlying76 ty
  rw [hsz, keysC_congr hCM] at this
  rw [mapA_keys, List.length_map]
  exact this
theorem areaL_store {q : QuaD} (h : quaB q = true) (t : Int) : storeB (areaL q.areas t) = true := by
  obtain ⟨⟨v1, v2⟩, v3, v4⟩ := (quaB_iff _).1 h
  unfold areaL
  rcases ha : areaO q.areas t with _ | os
  · rfl
  · exact ((fullB_iff _).1 (v1 _ ((areaO_mem v2 t os).1 ha)).2).2
theorem areaO_txn {q : QuaD} (h : quaB q = true) {i : Int} (hi : (areaO q.areas i).isSome = true) : txnB i = true := by
  obtain ⟨⟨v1, v2⟩, v3, v4⟩ := (quaB_iff _).1 h
  obtain ⟨os, hos⟩ := Option.isSome_iff_exists.1 hi
  exact (v1 _ ((areaO_mem v2 i os).1 hos)).1

/-- what discarding, and promoting, ask first -/
theorem proIn_no {q : QuaD} {t : Int} (h : proIn q t = false) : (quaDis q t = zQua ∧ quaDisB q t = false) ∧ (quaPro q t = zQua ∧ quaProB q t = false) := by
  unfold quaDis quaDisB quaPro quaProB; simp [h]
theorem proIn_yes {q : QuaD} {t : Int} (h : proIn q t = true) : quaDis q t = ⟨q.main, setA q.areas t []⟩ ∧ quaDisB q t = (areaO q.areas t).isSome := by
  unfold quaDis quaDisB; simp [h]

set_option maxRecDepth 100000 in
set_option maxHeartbeats 3200000 in
theorem implDiscard_any (os : List ObjD) (zs : List AreaD) (t : Int) (A : Option Addr) (n c : Nat) (B : Option Addr) (m d : Nat) (w : World) (lo hi : Nat) (hh : hi ≤ w.heap.size) (h : D.rd w lo hi (dObjects os) (.slice A n c)) (h' : D.rd w lo hi (dAreas zs) (.slice B m d)) :
    Calls Try.prog 32 #[.agg #[.slice A n c, .slice B m d], .int .i64 t] w fun e w' => QuaR w (quaDis ⟨os, zs⟩ t) (quaDisB ⟨os, zs⟩ t) e w' := by
  obtain ⟨r, hr⟩ : ∃ r, r = w.heap.size := ⟨_, rfl⟩
  obtain ⟨r2, hr2⟩ : ∃ r2, r2 = w.heap.size + 1 := ⟨_, rfl⟩
  obtain ⟨w1, hw1⟩ : ∃ w1, w1 = (w.alloc (.cells #[.slice A n c, .slice B m d] 31)).alloc (.cells #[.slice none 0 0, .slice none 0 0] 31) := ⟨_, rfl⟩
  have hb1 : Below w.heap.size w w1 := by rw [hw1]; exact ((Below.refl _ _).alloc (Nat.le_refl _) _).alloc (by simp) _
  have hx1 : w1.heap[r]? = some (.cells #[.slice A n c, .slice B m d] 31 (0, 0)) := by rw [hw1, hr]; exact (Below.heap_alloc _ _ _ (by simp)).trans (heap_alloc_new w _)
  have hx2 : w1.heap[r2]? = some (.cells #[.slice none 0 0, .slice none 0 0] 31 (0, 0)) := by
    have := heap_alloc_new (w.alloc (.cells #[.slice A n c, .slice B m d] 31)) (.cells #[.slice none 0 0, .slice none 0 0] 31)
    rw [hw1, hr2]; simpa using this
  have HBX1 : Hid (Boxes w1 r r2 A n c B m d) := Lib.hid ⟨hx1, hx2⟩
  have hrw : w.heap.size ≤ r := by omega
  have hrw2 : w.heap.size ≤ r2 := by omega
  have hne : ¬ (r = r2) := by omega
  have hne2 : ¬ (r2 = r) := by omega
  have hrs : r < w1.heap.size := hltS hx1
  have hrs2 : r2 < w1.heap.size := hltS hx2
  have HB1 := Lib.hid hb1
  have hh1 : hi ≤ w1.heap.size := Nat.le_trans hh hb1.size
  have HJ1 := Lib.hid (h.below hb1 hh)
  have HI1 := Lib.hid (h'.below hb1 hh)
  have HN := Lib.hid h.len.1
  have HM := Lib.hid h'.len.1
  clear h h' hb1 hx1 hx2
  go_enter Try.func32, Try.ntmps32
  go_upto_region 1 with (fail)
  rw [← hw1, ← hr2, ← hr]
  clear hw1 hr hr2
  obtain ⟨k0, k1, k2, k3, f0, f1, l0, l1⟩ := HBX1.out.cells
  go_wp2_with fail
  refine (implQuaValid_any os zs A n c B m d w1 lo hi hh1 HJ1.out HI1.out).mono ?_
  rintro e w2 ⟨rfl, hb2⟩
  have HB2 := Lib.hid (bel_tr HB1.out (Nat.le_refl _) hb2)
  have HBX2 := Lib.hid (HBX1.out.fresh hb2)
  have hs12 := hb2.size
  have HJ2 := Lib.hid (HJ1.out.below hb2 hh1)
  have HI2 := Lib.hid (HI1.out.below hb2 hh1)
  have hh2 : hi ≤ w2.heap.size := Nat.le_trans hh1 hb2.size
  clear hb2 k0 k1 k2 k3 f0 f1 l0 l1
  obtain ⟨z0, z1, z2, z3, f0, f1, l0, l1⟩ := HBX2.out.cells
  rcases hv : quaB ⟨os, zs⟩ with _ | _
  · have HZ := Lib.hid (proIn_no (q := ⟨os, zs⟩) (t := t) (by unfold proIn; rw [hv]; rfl)).1
    clear hv
    go_wp2_with fail
    refine bodyPost_ret (v := .tuple #[.agg #[.slice none 0 0, .slice none 0 0], .bool false]) (by simp [results, Try.results32, go_sem, z0, z1, z2, z3]) rfl ?_
    refine ⟨none, 0, 0, none, 0, 0, by rw [HZ.out.1]; exact QuaG.nil _ _, ((HB2).out.setCell hrw2 _).setCell hrw2 _, by rw [HZ.out.2]⟩
  · rcases ht : txnB t with _ | _
    · have HZ := Lib.hid (proIn_no (q := ⟨os, zs⟩) (t := t) (by unfold proIn; rw [ht]; simp)).1
      have HT := Lib.hid ht
      clear ht hv
      go_wp2_with (go_at_call 50; refine (isTxn_any t _).mono ?_; rintro e w' ⟨rfl, rfl⟩; rw [HT.out])
      go_wp2_with fail
      refine bodyPost_ret (v := .tuple #[.agg #[.slice none 0 0, .slice none 0 0], .bool false]) (by simp [results, Try.results32, go_sem, z0, z1, z2, z3]) rfl ?_
      refine ⟨none, 0, 0, none, 0, 0, by rw [HZ.out.1]; exact QuaG.nil _ _, ((HB2).out.setCell hrw2 _).setCell hrw2 _, by rw [HZ.out.2]⟩
    · have HY := Lib.hid (proIn_yes (q := ⟨os, zs⟩) (t := t) (by unfold proIn; rw [ht, hv]; rfl))
      have HT := Lib.hid ht
      have HV := Lib.hid hv
      obtain ⟨⟨v1, v2⟩, v3, v4⟩ := (quaB_iff _).1 hv
      obtain ⟨s1, s2, s3⟩ := (storeB_iff _).1 v3
      dsimp only at v1 v2 v3 v4 s1 s2 s3
      have hm4 : m ≤ 1000 := by rw [HM.out]; omega
      have hn16 : n ≤ 1048576 := by rw [HN.out]; omega
      have hwf := wf_txn ht
      have HAV : Hid (∀ a ∈ zs, txnB a.txn = true ∧ storeB a.objs = true) := Lib.hid fun a ha => ⟨(v1 a ha).1, ((fullB_iff _).1 (v1 a ha).2).2⟩
      have HAA := Lib.hid v2
      have HLK : Hid (∀ o ∈ os, o.links.length ≤ 1048576) := Lib.hid fun o ho => by have := (objB_and (s1 o ho)).2.1; omega
      have HMD := Lib.hid (mapA_del v2 (fun a ha => (v1 a ha).1) t)
      clear ht hv v1 v2 v3 v4 s1 s2 s3
      go_wp2_with (go_at_call 50; refine (isTxn_any t _).mono ?_; rintro e w' ⟨rfl, rfl⟩; rw [HT.out])
      refine (areas_any zs A n c B m d w2 lo hi hh2 HAV.out HAA.out hm4 HI2.out).mono ?_
      rintro e w3 ⟨b, hq3, hb3, rfl⟩
      have HB3 := Lib.hid (bel_tr HB2.out (Nat.le_refl _) hb3)
      have HBX3 := Lib.hid (HBX2.out.fresh hb3)
      have HJ3 := Lib.hid (HJ2.out.below hb3 hh2)
      have hh3 : hi ≤ w3.heap.size := Nat.le_trans hh2 hb3.size
      have hbb := hq3.blk_ge
      obtain ⟨Ax, mx, cx, hask, -⟩ := hq3.ask hwf
      have hlk := hask true
      rw [if_pos rfl] at hlk
      obtain ⟨w4, hdel, hq4, hg4⟩ := hq3.del hwf 0
      have HB4 := Lib.hid (HB3.out.grown hg4 HB3.out.size (fun j hj => by injection hj with hj; have := HB2.out.size; omega))
      have HBX4 := Lib.hid (HBX3.out.grown hg4 (by omega) (by omega))
      have hj4 : D.rd w4 lo hi (dObjects os) (.slice A n c) := HJ3.out.grown hg4 hh3 (fun j hj => by injection hj with hj; omega)
      have HJ4 := Lib.hid hj4
      have hh4 : hi ≤ w4.heap.size := Nat.le_trans hh3 hg4.size
      have HQ4 := Lib.hid hq4
      have hw24 : w2.heap.size ≤ w4.heap.size := Nat.le_trans hb3.size hg4.size
      obtain ⟨k0, k1, k2, k3, -, -, l0', l1'⟩ := HBX4.out.cells
      clear hq3 hb3 hask hq4 hg4 hj4 z0 z1 z2 z3 f0 f1 l0 l1
      go_wp2_with fail
      refine (copyObjs_row os A n c w4 lo hi hh4 hn16 HLK.out HJ4.out).mono ?_
      rintro e w5 ⟨C, dc, hg5, hb5, rfl⟩
      have HO5 : Hid (Own w5 w4.heap.size (dObjects os) (.slice C n dc)) := Lib.hid (by have := hg5.own; unfold dObjects; rw [← HN.out]; exact this)
      have HB5 := Lib.hid (bel_tr HB4.out (Nat.le_refl _) hb5)
      have HBX5 := Lib.hid (HBX4.out.fresh hb5)
      have HP5 := Lib.hid (QPre.after HQ4.out hb5 HO5.out hw24)
      have hw25 : w2.heap.size ≤ w5.heap.size := Nat.le_trans hw24 hb5.size
      clear hg5 hb5 k0 k1 k2 k3 l0' l1'
      go_wp2_with fail
      refine (quaOf_any os _ C n dc w2.heap.size b m w5 (fun i hi => by
        by_cases e : i = t
        · rw [if_pos e] at hi; cases hi
        · rw [if_neg e] at hi; exact areaO_txn HV.out hi) hw25 HP5.out).mono ?_
      rintro e w6 ⟨va, hq6, hb6, rfl⟩
      have HB6 := Lib.hid (bel_tr HB5.out (Nat.le_refl _) hb6)
      have HBX6 := Lib.hid (HBX5.out.fresh hb6)
      have HQ6 := Lib.hid hq6
      obtain ⟨vs6, hrow6⟩ := hq6.row
      obtain ⟨V, cV, rfl, -, -, -⟩ := Rd.of_own hrow6
      obtain ⟨q, hq⟩ : ∃ q, q = (mapA fun j => if j = t then none else areaO zs j).length := ⟨_, rfl⟩
      have HQ6' : Hid (QuaG w6 w2.heap.size ⟨os, setA zs t []⟩ (.slice C n dc) (.slice V q cV)) := by
        have h1 := HQ6.out
        rw [← hq] at h1
        have e : (⟨os, mapA fun j => if j = t then none else areaO zs j⟩ : QuaD) = ⟨os, setA zs t []⟩ := by rw [HMD.out]
        rw [e] at h1
        exact Lib.hid h1
      rw [← hq]
      obtain ⟨k0, k1, k2, k3, f0, f1, l0', l1'⟩ := HBX6.out.cells
      clear hq6 hb6 hrow6 hq HQ6
      go_wp2_with fail
      refine bodyPost_ret (v := .tuple #[.agg #[.slice C n dc, .slice V q cV], .bool (areaO zs t).isSome]) (by simp [results, Try.results32, go_sem, k2, k3, f0, f1]) rfl ?_
      exact ⟨C, n, dc, V, q, cV, by rw [HY.out.1]; exact ((HQ6'.out.set (by omega) _ _).set (by omega) _ _).low (by have := HB2.out.size; omega), (HB6.out.setCell hrw2 _).setCell hrw2 _, by rw [HY.out.2]⟩

/-- a map from which an entry is removed, beside a store made since -/
theorem QPre.del_after {w w2 : World} {base b n : Nat} {M : Int → Option (List ObjD)} {os : List ObjD} {vm : Value} {i : Int} (h : QMap w base b n M) (hb : Below w.heap.size w w2) (ho : Own w2 w.heap.size (dObjects os) vm) (hbs : base ≤ w.heap.size) (hi : (Lit.int .i64 i).wf = true) (ty : TypeId) :
    ∃ w3, (Builtin.delete_ #[76, 3] ty #[.map (some b), .int .i64 i]).run Try.prog w2 = .ok (.tuple #[]) w3 ∧ QPre w3 base b n (fun j => if j = i then none else M j) os vm ∧ w2.grownBy w3 (some b) := by
  have hbl := h.lt
  obtain ⟨C, F, h1, h2, h3, h4, h5⟩ := h
  obtain ⟨G, q1, q2, q3⟩ := ho
  have h1' : MapI Try.prog 3 w2 b n C := h1.kept (grown_none hb none) (by simp)
  obtain ⟨w3, hrun, hm, hg⟩ := h1'.del (t := 76) Try.underlying3 Try.underlying76 hi ty
  have hk : ∀ g, g < w.heap.size → g ≠ b → w3.heap[g]? = w.heap[g]? := fun g hlt hne => (hg.block g (Nat.lt_of_lt_of_le hlt hb.size) (fun e => hne (by injection e))).trans (hb.block g hlt)
  refine ⟨w3, hrun, ⟨_, fun j => if j = i then [] else F j, G, hm, fun j => ?_, fun j => ?_, fun j l hjl g => ?_, D.own.keep _ _ _ (fun g hg' => hg.block g (q2 g hg').2 (fun e => by injection e with e; have := (q2 g hg').1; omega)) q3, q1, fun g hg' => ⟨Nat.le_trans hbs (q2 g hg').1, Nat.lt_of_lt_of_le (q2 g hg').2 hg.size⟩, fun j g hg' hF => ?_⟩, hg⟩
  · by_cases e : j = i
    · simp [if_pos e]
    · simp only [if_neg e]
      refine ⟨(h3 j).1, fun os' h => ?_⟩
      obtain ⟨A', m', c', k1, k2⟩ := (h3 j).2 os' h
      exact ⟨A', m', c', k1, D.own.keep _ _ _ (fun g hg' => hk g ((h4 j).2 g hg').2.1 ((h4 j).2 g hg').2.2) k2⟩
  · by_cases e : j = i
    · simp only [if_pos e]; exact ⟨List.nodup_nil, fun g h => by cases h⟩
    · simp only [if_neg e]
      exact ⟨(h4 j).1, fun g hg' => ⟨((h4 j).2 g hg').1, Nat.lt_of_lt_of_le ((h4 j).2 g hg').2.1 (Nat.le_trans hb.size hg.size)⟩⟩
  · by_cases e : j = i
    · simp only [if_pos e]; intro h; cases h
    · by_cases e2 : l = i
      · simp only [if_pos e2]; intro _ h; cases h
      · simp only [if_neg e, if_neg e2]; exact h5 j l hjl g
  · by_cases e : j = i
    · simp only [if_pos e] at hF; cases hF
    · simp only [if_neg e] at hF
      have := (q2 g hg').1; have := ((h4 j).2 g hF).2.1; omega
theorem quaPro_yes {q : QuaD} {t : Int} (h : proIn q t = true) (h1 : (areaO q.areas t).isSome = true) (h2 : (allP q.main (areaL q.areas t)).2 = true) : quaPro q t = ⟨(allP q.main (areaL q.areas t)).1, setA q.areas t []⟩ ∧ quaProB q t = true := by
  unfold quaPro quaProB proOk; simp [h, h1, h2]
theorem quaPro_none {q : QuaD} {t : Int} (h : proIn q t = true) (h1 : (areaO q.areas t).isSome = false) : quaPro q t = q ∧ quaProB q t = false := by
  unfold quaPro quaProB proOk; simp [h, h1]
theorem quaPro_fail {q : QuaD} {t : Int} (h : proIn q t = true) (h2 : (allP q.main (areaL q.areas t)).2 = false) : quaPro q t = q ∧ quaProB q t = false := by
  unfold quaPro quaProB proOk; simp [h, h2]

set_option maxRecDepth 100000 in
set_option maxHeartbeats 3200000 in
theorem implPromote_any (os : List ObjD) (zs : List AreaD) (t : Int) (A : Option Addr) (n c : Nat) (B : Option Addr) (m d : Nat) (w : World) (lo hi : Nat) (hh : hi ≤ w.heap.size) (h : D.rd w lo hi (dObjects os) (.slice A n c)) (h' : D.rd w lo hi (dAreas zs) (.slice B m d)) :
    Calls Try.prog 27 #[.agg #[.slice A n c, .slice B m d], .int .i64 t] w fun e w' => QuaR w (quaPro ⟨os, zs⟩ t) (quaProB ⟨os, zs⟩ t) e w' := by
  obtain ⟨r, hr⟩ : ∃ r, r = w.heap.size := ⟨_, rfl⟩
  obtain ⟨r2, hr2⟩ : ∃ r2, r2 = w.heap.size + 1 := ⟨_, rfl⟩
  obtain ⟨w1, hw1⟩ : ∃ w1, w1 = (w.alloc (.cells #[.slice A n c, .slice B m d] 31)).alloc (.cells #[.slice none 0 0, .slice none 0 0] 31) := ⟨_, rfl⟩
  have hb1 : Below w.heap.size w w1 := by rw [hw1]; exact ((Below.refl _ _).alloc (Nat.le_refl _) _).alloc (by simp) _
  have hx1 : w1.heap[r]? = some (.cells #[.slice A n c, .slice B m d] 31 (0, 0)) := by rw [hw1, hr]; exact (Below.heap_alloc _ _ _ (by simp)).trans (heap_alloc_new w _)
  have hx2 : w1.heap[r2]? = some (.cells #[.slice none 0 0, .slice none 0 0] 31 (0, 0)) := by
    have := heap_alloc_new (w.alloc (.cells #[.slice A n c, .slice B m d] 31)) (.cells #[.slice none 0 0, .slice none 0 0] 31)
    rw [hw1, hr2]; simpa using this
  have HBX1 : Hid (Boxes w1 r r2 A n c B m d) := Lib.hid ⟨hx1, hx2⟩
  have hrw : w.heap.size ≤ r := by omega
  have hrw2 : w.heap.size ≤ r2 := by omega
  have hne : ¬ (r = r2) := by omega
  have hne2 : ¬ (r2 = r) := by omega
  have hrs : r < w1.heap.size := hltS hx1
  have hrs2 : r2 < w1.heap.size := hltS hx2
  have HB1 := Lib.hid hb1
  have hh1 : hi ≤ w1.heap.size := Nat.le_trans hh hb1.size
  have HJ1 := Lib.hid (h.below hb1 hh)
  have HI1 := Lib.hid (h'.below hb1 hh)
  have HN := Lib.hid h.len.1
  have HM := Lib.hid h'.len.1
  clear h h' hb1 hx1 hx2
  go_enter Try.func27, Try.ntmps27
  go_upto_region 1 with (fail)
  rw [← hw1, ← hr2, ← hr]
  clear hw1 hr hr2
  obtain ⟨k0, k1, k2, k3, f0, f1, l0, l1⟩ := HBX1.out.cells
  go_wp2_with fail
  refine (implQuaValid_any os zs A n c B m d w1 lo hi hh1 HJ1.out HI1.out).mono ?_
  rintro e w2 ⟨rfl, hb2⟩
  have HB2 := Lib.hid (bel_tr HB1.out (Nat.le_refl _) hb2)
  have HBX2 := Lib.hid (HBX1.out.fresh hb2)
  have hs12 := hb2.size
  have HJ2 := Lib.hid (HJ1.out.below hb2 hh1)
  have HI2 := Lib.hid (HI1.out.below hb2 hh1)
  have hh2 : hi ≤ w2.heap.size := Nat.le_trans hh1 hb2.size
  clear hb2 k0 k1 k2 k3 f0 f1 l0 l1
  obtain ⟨z0, z1, z2, z3, f0, f1, l0, l1⟩ := HBX2.out.cells
  rcases hv : quaB ⟨os, zs⟩ with _ | _
  · have HZ := Lib.hid (proIn_no (q := ⟨os, zs⟩) (t := t) (by unfold proIn; rw [hv]; rfl)).2
    clear hv
    go_wp2_with fail
    refine bodyPost_ret (v := .tuple #[.agg #[.slice none 0 0, .slice none 0 0], .bool false]) (by simp [results, Try.results27, go_sem, z0, z1, z2, z3]) rfl ?_
    refine ⟨none, 0, 0, none, 0, 0, by rw [HZ.out.1]; exact QuaG.nil _ _, ((HB2).out.setCell hrw2 _).setCell hrw2 _, by rw [HZ.out.2]⟩
  · rcases ht : txnB t with _ | _
    · have HZ := Lib.hid (proIn_no (q := ⟨os, zs⟩) (t := t) (by unfold proIn; rw [ht]; simp)).2
      have HT := Lib.hid ht
      clear ht hv
      go_wp2_with (go_at_call 50; refine (isTxn_any t _).mono ?_; rintro e w' ⟨rfl, rfl⟩; rw [HT.out])
      go_wp2_with fail
      refine bodyPost_ret (v := .tuple #[.agg #[.slice none 0 0, .slice none 0 0], .bool false]) (by simp [results, Try.results27, go_sem, z0, z1, z2, z3]) rfl ?_
      refine ⟨none, 0, 0, none, 0, 0, by rw [HZ.out.1]; exact QuaG.nil _ _, ((HB2).out.setCell hrw2 _).setCell hrw2 _, by rw [HZ.out.2]⟩
    · have HIN : Hid (proIn ⟨os, zs⟩ t = true) := Lib.hid (by unfold proIn; rw [ht, hv]; rfl)
      have HT := Lib.hid ht
      have HV := Lib.hid hv
      obtain ⟨⟨v1, v2⟩, v3, v4⟩ := (quaB_iff _).1 hv
      obtain ⟨s1, s2, s3⟩ := (storeB_iff _).1 v3
      dsimp only at v1 v2 v3 v4 s1 s2 s3
      have hm4 : m ≤ 1000 := by rw [HM.out]; omega
      have hn16 : n ≤ 1048576 := by rw [HN.out]; omega
      have hwf := wf_txn ht
      have HAV : Hid (∀ a ∈ zs, txnB a.txn = true ∧ storeB a.objs = true) := Lib.hid fun a ha => ⟨(v1 a ha).1, ((fullB_iff _).1 (v1 a ha).2).2⟩
      have HAA := Lib.hid v2
      have HZT : Hid (∀ a ∈ zs, txnB a.txn = true) := Lib.hid fun a ha => (v1 a ha).1
      have HZ4 : Hid (zs.length ≤ 4) := Lib.hid v4
      have HSM : Hid (storeB os = true) := Lib.hid v3
      have HLK : Hid (∀ o ∈ os, o.links.length ≤ 1048576) := Lib.hid fun o ho => by have := (objB_and (s1 o ho)).2.1; omega
      have HSA : Hid (storeB (areaL zs t) = true) := Lib.hid (areaL_store (q := ⟨os, zs⟩) hv t)
      clear ht hv v1 v2 v3 v4 s1 s2 s3
      have HMD := Lib.hid (mapA_del HAA.out HZT.out t)
      go_wp2_with (go_at_call 50; refine (isTxn_any t _).mono ?_; rintro e w' ⟨rfl, rfl⟩; rw [HT.out])
      refine (areas_any zs A n c B m d w2 lo hi hh2 HAV.out HAA.out hm4 HI2.out).mono ?_
      rintro e w3 ⟨b, hq3, hb3, rfl⟩
      have HB3 := Lib.hid (bel_tr HB2.out (Nat.le_refl _) hb3)
      have HBX3 := Lib.hid (HBX2.out.fresh hb3)
      have HJ3 := Lib.hid (HJ2.out.below hb3 hh2)
      have HI3 := Lib.hid (HI2.out.below hb3 hh2)
      have hh3 : hi ≤ w3.heap.size := Nat.le_trans hh2 hb3.size
      have hbb := hq3.blk_ge
      have hw23 := hb3.size
      obtain ⟨Ax, mx, cx, hask, hrx⟩ := hq3.ask hwf
      have HQ3 := Lib.hid hq3
      have HRX : Hid (D.rd w3 w2.heap.size w3.heap.size (dObjects (areaL zs t)) (.slice Ax mx cx)) := Lib.hid hrx
      have hlk := hask true
      rw [if_pos rfl] at hlk
      obtain ⟨y0, y1, y2, y3, -, -, yl0, yl1⟩ := HBX3.out.cells
      clear hq3 hb3 hask hrx z0 z1 z2 z3 f0 f1 l0 l1
      go_wp2_with fail
      refine (storeAll_any os (areaL zs t) A n c Ax mx cx w3 lo hi w2.heap.size w3.heap.size hh3 (Nat.le_refl _) HSM.out (fun o ho => ((storeB_iff _).1 HSA.out).1 o ho) HJ3.out HRX.out).mono ?_
      rintro e w4 ⟨C, q4, d4, hql, hg4, hb4, rfl⟩
      have HB4 := Lib.hid (bel_tr HB3.out (Nat.le_refl _) hb4)
      have HBX4 := Lib.hid (HBX3.out.fresh hb4)
      have HJ4 := Lib.hid (HJ3.out.below hb4 hh3)
      have HI4 := Lib.hid (HI3.out.below hb4 hh3)
      have hh4 : hi ≤ w4.heap.size := Nat.le_trans hh3 hb4.size
      have hw34 := hb4.size
      obtain ⟨k0, k1, k2, k3, -, -, l0', l1'⟩ := HBX4.out.cells
      have HO4 : Hid (Own w4 w3.heap.size (dObjects (allP os (areaL zs t)).1) (.slice C q4 d4)) := Lib.hid (by have := hg4.own; unfold dObjects; rw [← hql]; exact this)
      have hb4c := Lib.hid hb4
      clear hg4 hb4 hql y0 y1 y2 y3 yl0 yl1
      rcases hf : (areaO zs t).isSome with _ | _
      · rw [hf] at hlk
        rcases hp : (allP os (areaL zs t)).2 with _ | _
        all_goals
          have HRES := Lib.hid (quaPro_none (q := ⟨os, zs⟩) HIN.out hf)
          go_wp2_with fail
          refine (copyQua_any os zs A n c B m d w4 lo hi hh4 HV.out HJ4.out HI4.out).mono ?_
          rintro e w6 ⟨C6, n6, dc6, V6, m6, cV6, hq6, hb6, rfl⟩
          have HB6 := Lib.hid (bel_tr HB4.out (Nat.le_refl _) hb6)
          have HBX6 := Lib.hid (HBX4.out.fresh hb6)
          have HQ6 := Lib.hid hq6
          obtain ⟨g0, g1, g2, g3, gf0, gf1, gl0, gl1⟩ := HBX6.out.cells
          clear hq6 hb6
          go_wp2_with fail
          refine bodyPost_ret (v := .tuple #[.agg #[.slice C6 n6 dc6, .slice V6 m6 cV6], .bool false]) (by simp [results, Try.results27, go_sem, g2, g3, gf0, gf1]) rfl ?_
          exact ⟨C6, n6, dc6, V6, m6, cV6, by rw [HRES.out.1]; exact ((HQ6.out.set (by have := hrs2; omega) _ _).set (by have := hrs2; omega) _ _).low (HB4.out.size), (HB6.out.setCell hrw2 _).setCell hrw2 _, by rw [HRES.out.2]⟩
      · rw [hf] at hlk
        rcases hp : (allP os (areaL zs t)).2 with _ | _
        · -- no space
          have HRES := Lib.hid (quaPro_fail (q := ⟨os, zs⟩) HIN.out hp)
          go_wp2_with fail
          refine (copyQua_any os zs A n c B m d w4 lo hi hh4 HV.out HJ4.out HI4.out).mono ?_
          rintro e w6 ⟨C6, n6, dc6, V6, m6, cV6, hq6, hb6, rfl⟩
          have HB6 := Lib.hid (bel_tr HB4.out (Nat.le_refl _) hb6)
          have HBX6 := Lib.hid (HBX4.out.fresh hb6)
          have HQ6 := Lib.hid hq6
          obtain ⟨g0, g1, g2, g3, gf0, gf1, gl0, gl1⟩ := HBX6.out.cells
          clear hq6 hb6
          go_wp2_with fail
          refine bodyPost_ret (v := .tuple #[.agg #[.slice C6 n6 dc6, .slice V6 m6 cV6], .bool false]) (by simp [results, Try.results27, go_sem, g2, g3, gf0, gf1]) rfl ?_
          exact ⟨C6, n6, dc6, V6, m6, cV6, by rw [HRES.out.1]; exact ((HQ6.out.set (by have := hrs2; omega) _ _).set (by have := hrs2; omega) _ _).low (HB4.out.size), (HB6.out.setCell hrw2 _).setCell hrw2 _, by rw [HRES.out.2]⟩
        · have HRES := Lib.hid (quaPro_yes (q := ⟨os, zs⟩) HIN.out hf hp)
          obtain ⟨w5, hdel, hp5, hg5⟩ := QPre.del_after HQ3.out hb4c.out HO4.out hw23 hwf 0
          have HB5 := Lib.hid (HB4.out.grown hg5 HB4.out.size (fun j hj => by injection hj with hj; have := HB2.out.size; omega))
          have HBX5 := Lib.hid (HBX4.out.grown hg5 (by omega) (by omega))
          have HP5 := Lib.hid hp5
          have hw25 : w2.heap.size ≤ w5.heap.size := by have := hg5.size; omega
          clear hp5 hg5 k0 k1 k2 k3 l0' l1'
          go_wp2_with fail
          refine (quaOf_any (allP os (areaL zs t)).1 _ C q4 d4 w2.heap.size b m w5 (fun i hi => by
            by_cases e : i = t
            · rw [if_pos e] at hi; cases hi
            · rw [if_neg e] at hi; exact areaO_txn HV.out hi) hw25 HP5.out).mono ?_
          rintro e w6 ⟨va, hq6, hb6, rfl⟩
          have HB6 := Lib.hid (bel_tr HB5.out (Nat.le_refl _) hb6)
          have HBX6 := Lib.hid (HBX5.out.fresh hb6)
          obtain ⟨vs6, hrow6⟩ := hq6.row
          obtain ⟨V, cV, rfl, -, -, -⟩ := Rd.of_own hrow6
          obtain ⟨q, hq⟩ : ∃ q, q = (mapA (fun j => if j = t then none else areaO zs j)).length := ⟨_, rfl⟩
          have HQ6' : Hid (QuaG w6 w2.heap.size ⟨(allP os (areaL zs t)).1, setA zs t []⟩ (.slice C q4 d4) (.slice V q cV)) := by
            have h1 := hq6
            rw [← hq] at h1
            have e : (⟨(allP os (areaL zs t)).1, mapA (fun j => if j = t then none else areaO zs j)⟩ : QuaD) = ⟨(allP os (areaL zs t)).1, setA zs t []⟩ := by rw [HMD.out]
            rw [e] at h1
            exact Lib.hid h1
          rw [← hq]
          obtain ⟨k0, k1, k2, k3, f0, f1, l0', l1'⟩ := HBX6.out.cells
          clear hq6 hb6 hrow6 hq
          go_wp2_with fail
          refine bodyPost_ret (v := .tuple #[.agg #[.slice C q4 d4, .slice V q cV], .bool true]) (by simp [results, Try.results27, go_sem, k2, k3, f0, f1]) rfl ?_
          exact ⟨C, q4, d4, V, q, cV, by rw [HRES.out.1]; exact ((HQ6'.out.set (by omega) _ _).set (by omega) _ _).low (by have := HB2.out.size; omega), (HB6.out.setCell hrw2 _).setCell hrw2 _, by rw [HRES.out.2]⟩

end Go.Proofs.Ytgpjcmplnigmcaa

namespace Go.Proofs.Ytgpjcmplnigmcaa
set_option linter.unusedVariables false
set_option linter.unusedSimpArgs false
open Go.RowKit

theorem putIn_no {q : QuaD} {t : Int} {l : List ObjD} (h : putIn q t l = false) : quaPut q t l = zQua ∧ quaPutB q t l = false := by
  unfold quaPut quaPutB; simp [h]
theorem quaPut_p1 {q : QuaD} {t : Int} {l : List ObjD} (h : putIn q t l = true) (h1 : (allP (areaL q.areas t) l).2 = false) : quaPut q t l = q ∧ quaPutB q t l = false := by
  unfold quaPut quaPutB putOk; simp [h, h1]
theorem quaPut_p2 {q : QuaD} {t : Int} {l : List ObjD} (h : putIn q t l = true) (h1 : (allP q.main (newA q t l)).2 = false) : quaPut q t l = q ∧ quaPutB q t l = false := by
  unfold quaPut quaPutB putOk; simp [h, h1]
theorem quaPut_p3 {q : QuaD} {t : Int} {l : List ObjD} (h : putIn q t l = true) (h1 : areaO q.areas t = none) (h2 : 4 ≤ q.areas.length) : quaPut q t l = q ∧ quaPutB q t l = false := by
  unfold quaPut quaPutB putOk; simp [h, h1, h2]
theorem quaPut_yes {q : QuaD} {t : Int} {l : List ObjD} (h : putIn q t l = true) (h1 : (allP (areaL q.areas t) l).2 = true) (h2 : (allP q.main (newA q t l)).2 = true) (h3 : ¬ (areaO q.areas t = none ∧ 4 ≤ q.areas.length)) : quaPut q t l = ⟨q.main, setA q.areas t (newA q t l)⟩ ∧ quaPutB q t l = true := by
  have h4 : putOk q t l = true := by
    unfold putOk
    rw [h1, h2, ← Bool.decide_and, decide_eq_false h3]; rfl
  unfold quaPut quaPutB; simp [h, h4]
theorem setA_over {zs : List AreaD} (h : AscA zs) (t : Int) (l : List ObjD) (hl : l ≠ []) (h4 : zs.length ≤ 4) : 4 < (setA zs t l).length ↔ (areaO zs t = none ∧ 4 ≤ zs.length) := by
  have := setA_len h t l
  rw [if_neg hl] at this
  rcases ha : areaO zs t with _ | os
  · rw [ha] at this; simp at this; simp; omega
  · rw [ha] at this; simp at this; simp; omega
theorem newA_ne {s l : List ObjD} (h : (allP s l).2 = true) (hl : l ≠ []) : (allP s l).1 ≠ [] := by
  intro e
  obtain ⟨o, r, rfl⟩ := List.exists_cons_of_ne_nil hl
  have := (allP_mem h o).2 (.inr List.mem_cons_self)
  rw [e] at this; cases this

set_option maxRecDepth 100000 in
set_option maxHeartbeats 6400000 in
theorem implQPut_any (os : List ObjD) (zs : List AreaD) (t : Int) (l : List ObjD) (A : Option Addr) (n c : Nat) (B : Option Addr) (m d : Nat) (L : Option Addr) (nl cl : Nat) (w : World) (lo hi lo' hi' : Nat) (hh : hi ≤ w.heap.size) (hh' : hi' ≤ w.heap.size) (h : D.rd w lo hi (dObjects os) (.slice A n c)) (h' : D.rd w lo hi (dAreas zs) (.slice B m d)) (hl : D.rd w lo' hi' (dObjects l) (.slice L nl cl)) :
    Calls Try.prog 16 #[.agg #[.slice A n c, .slice B m d], .int .i64 t, .slice L nl cl] w fun e w' => QuaR w (quaPut ⟨os, zs⟩ t l) (quaPutB ⟨os, zs⟩ t l) e w' := by
  obtain ⟨r, hr⟩ : ∃ r, r = w.heap.size := ⟨_, rfl⟩
  obtain ⟨r2, hr2⟩ : ∃ r2, r2 = w.heap.size + 1 := ⟨_, rfl⟩
  obtain ⟨w1, hw1⟩ : ∃ w1, w1 = (w.alloc (.cells #[.slice A n c, .slice B m d] 31)).alloc (.cells #[.slice none 0 0, .slice none 0 0] 31) := ⟨_, rfl⟩
  have hb1 : Below w.heap.size w w1 := by rw [hw1]; exact ((Below.refl _ _).alloc (Nat.le_refl _) _).alloc (by simp) _
  have hx1 : w1.heap[r]? = some (.cells #[.slice A n c, .slice B m d] 31 (0, 0)) := by rw [hw1, hr]; exact (Below.heap_alloc _ _ _ (by simp)).trans (heap_alloc_new w _)
  have hx2 : w1.heap[r2]? = some (.cells #[.slice none 0 0, .slice none 0 0] 31 (0, 0)) := by
    have := heap_alloc_new (w.alloc (.cells #[.slice A n c, .slice B m d] 31)) (.cells #[.slice none 0 0, .slice none 0 0] 31)
    rw [hw1, hr2]; simpa using this
  have HBX1 : Hid (Boxes w1 r r2 A n c B m d) := Lib.hid ⟨hx1, hx2⟩
  have hrw : w.heap.size ≤ r := by omega
  have hrw2 : w.heap.size ≤ r2 := by omega
  have hne : ¬ (r = r2) := by omega
  have hne2 : ¬ (r2 = r) := by omega
  have hrs : r < w1.heap.size := hltS hx1
  have hrs2 : r2 < w1.heap.size := hltS hx2
  have HB1 := Lib.hid hb1
  have hh1 : hi ≤ w1.heap.size := Nat.le_trans hh hb1.size
  have HJ1 := Lib.hid (h.below hb1 hh)
  have HI1 := Lib.hid (h'.below hb1 hh)
  have HL1 := Lib.hid (hl.below hb1 hh')
  have hh1' : hi' ≤ w1.heap.size := Nat.le_trans hh' hb1.size
  have HN := Lib.hid h.len.1
  have HM := Lib.hid h'.len.1
  clear h h' hl hb1 hx1 hx2
  go_enter Try.func16, Try.ntmps16
  go_upto_region 1 with (fail)
  rw [← hw1, ← hr2, ← hr]
  clear hw1 hr hr2
  obtain ⟨k0, k1, k2, k3, f0, f1, l0, l1⟩ := HBX1.out.cells
  go_wp2_with fail
  refine (implQuaValid_any os zs A n c B m d w1 lo hi hh1 HJ1.out HI1.out).mono ?_
  rintro e w2 ⟨rfl, hb2⟩
  have HB2 := Lib.hid (bel_tr HB1.out (Nat.le_refl _) hb2)
  have HBX2 := Lib.hid (HBX1.out.fresh hb2)
  have hs12 := hb2.size
  have HJ2 := Lib.hid (HJ1.out.below hb2 hh1)
  have HI2 := Lib.hid (HI1.out.below hb2 hh1)
  have hh2 : hi ≤ w2.heap.size := Nat.le_trans hh1 hb2.size
  have HL2 := Lib.hid (HL1.out.below hb2 hh1')
  have hh2' : hi' ≤ w2.heap.size := Nat.le_trans hh1' hb2.size
  clear hb2 k0 k1 k2 k3 f0 f1 l0 l1
  obtain ⟨z0, z1, z2, z3, f0, f1, l0, l1⟩ := HBX2.out.cells
  rcases hv : quaB ⟨os, zs⟩ with _ | _
  · have HZ := Lib.hid (putIn_no (q := ⟨os, zs⟩) (t := t) (l := l) (by unfold putIn; rw [hv]; rfl))
    clear hv
    go_wp2_with fail
    refine bodyPost_ret (v := .tuple #[.agg #[.slice none 0 0, .slice none 0 0], .bool false]) (by simp [results, Try.results16, go_sem, z0, z1, z2, z3]) rfl ?_
    refine ⟨none, 0, 0, none, 0, 0, by rw [HZ.out.1]; exact QuaG.nil _ _, ((HB2).out.setCell hrw2 _).setCell hrw2 _, by rw [HZ.out.2]⟩
  · rcases ht : txnB t with _ | _
    · have HZ := Lib.hid (putIn_no (q := ⟨os, zs⟩) (t := t) (l := l) (by unfold putIn; rw [ht]; simp))
      have HT := Lib.hid ht
      clear ht hv
      go_wp2_with (go_at_call 50; refine (isTxn_any t _).mono ?_; rintro e w' ⟨rfl, rfl⟩; rw [HT.out])
      go_wp2_with fail
      refine bodyPost_ret (v := .tuple #[.agg #[.slice none 0 0, .slice none 0 0], .bool false]) (by simp [results, Try.results16, go_sem, z0, z1, z2, z3]) rfl ?_
      refine ⟨none, 0, 0, none, 0, 0, by rw [HZ.out.1]; exact QuaG.nil _ _, ((HB2).out.setCell hrw2 _).setCell hrw2 _, by rw [HZ.out.2]⟩
    · have HT0 := Lib.hid ht
      go_wp2_with (go_at_call 50; refine (isTxn_any t _).mono ?_; rintro e w' ⟨rfl, rfl⟩; rw [HT0.out])
      refine (fullStore_any l L nl cl w2 lo' hi' hh2' HL2.out).mono ?_
      rintro e w2b ⟨rfl, hb2⟩
      obtain ⟨wv, hwv⟩ : ∃ wv, wv = w2b := ⟨_, rfl⟩
      subst hwv
      have HB2b := Lib.hid (bel_tr HB2.out (Nat.le_refl _) hb2)
      have HBX2b := Lib.hid (HBX2.out.fresh hb2)
      have hs12b := Nat.le_trans hs12 hb2.size
      have HJ2b := Lib.hid (HJ2.out.below hb2 hh2)
      have HI2b := Lib.hid (HI2.out.below hb2 hh2)
      have HL2b := Lib.hid (HL2.out.below hb2 hh2')
      have hh2b : hi ≤ wv.heap.size := Nat.le_trans hh2 hb2.size
      have hh2b' : hi' ≤ wv.heap.size := Nat.le_trans hh2' hb2.size
      clear hb2 z0 z1 z2 z3 f0 f1 l0 l1 HB2 HBX2 hs12 HJ2 HI2 HL2 hh2 hh2'
      obtain ⟨w2, hw2⟩ : ∃ w2, w2 = wv := ⟨_, rfl⟩
      subst hw2
      obtain ⟨z0, z1, z2, z3, f0, f1, l0, l1⟩ := HBX2b.out.cells
      have HB2 := HB2b
      have HBX2 := HBX2b
      have hs12 := hs12b
      have HJ2 := HJ2b
      have HI2 := HI2b
      have HL2 := HL2b
      have hh2 := hh2b
      have hh2' := hh2b'
      clear HB2b HBX2b hs12b HJ2b HI2b HL2b hh2b hh2b'
      rcases hf : fullB l with _ | _
      · have HZ := Lib.hid (putIn_no (q := ⟨os, zs⟩) (t := t) (l := l) (by unfold putIn; rw [hf]; simp))
        clear ht hv hf
        go_wp2_with fail
        refine bodyPost_ret (v := .tuple #[.agg #[.slice none 0 0, .slice none 0 0], .bool false]) (by simp [results, Try.results16, go_sem, z0, z1, z2, z3]) rfl ?_
        refine ⟨none, 0, 0, none, 0, 0, by rw [HZ.out.1]; exact QuaG.nil _ _, ((HB2).out.setCell hrw2 _).setCell hrw2 _, by rw [HZ.out.2]⟩
      · have HIN : Hid (putIn ⟨os, zs⟩ t l = true) := Lib.hid (by unfold putIn; rw [ht, hv, hf]; rfl)
        obtain ⟨lne, lst⟩ := (fullB_iff l).1 hf
        have HLN : Hid (l ≠ []) := Lib.hid lne
        have HLO : Hid (∀ o ∈ l, objB o = true) := Lib.hid ((storeB_iff l).1 lst).1
        clear hf lne lst
        have HT := Lib.hid ht
        have HV := Lib.hid hv
        obtain ⟨⟨v1, v2⟩, v3, v4⟩ := (quaB_iff _).1 hv
        obtain ⟨s1, s2, s3⟩ := (storeB_iff _).1 v3
        dsimp only at v1 v2 v3 v4 s1 s2 s3
        have hm4 : m ≤ 1000 := by rw [HM.out]; omega
        have hn16 : n ≤ 1048576 := by rw [HN.out]; omega
        have hwf := wf_txn ht
        have HAV : Hid (∀ a ∈ zs, txnB a.txn = true ∧ storeB a.objs = true) := Lib.hid fun a ha => ⟨(v1 a ha).1, ((fullB_iff _).1 (v1 a ha).2).2⟩
        have HAA := Lib.hid v2
        have HZT : Hid (∀ a ∈ zs, txnB a.txn = true) := Lib.hid fun a ha => (v1 a ha).1
        have HZ4 : Hid (zs.length ≤ 4) := Lib.hid v4
        have HSM : Hid (storeB os = true) := Lib.hid v3
        have HLK : Hid (∀ o ∈ os, o.links.length ≤ 1048576) := Lib.hid fun o ho => by have := (objB_and (s1 o ho)).2.1; omega
        have HSA : Hid (storeB (areaL zs t) = true) := Lib.hid (areaL_store (q := ⟨os, zs⟩) hv t)
        clear ht hv v1 v2 v3 v4 s1 s2 s3
        go_wp2_with fail
        refine (areas_any zs A n c B m d w2 lo hi hh2 HAV.out HAA.out hm4 HI2.out).mono ?_
        rintro e w3 ⟨b, hq3, hb3, rfl⟩
        have HB3 := Lib.hid (bel_tr HB2.out (Nat.le_refl _) hb3)
        have HBX3 := Lib.hid (HBX2.out.fresh hb3)
        have HJ3 := Lib.hid (HJ2.out.below hb3 hh2)
        have HI3 := Lib.hid (HI2.out.below hb3 hh2)
        have hh3 : hi ≤ w3.heap.size := Nat.le_trans hh2 hb3.size
        have hbb := hq3.blk_ge
        have hw23 := hb3.size
        obtain ⟨Ax, mx, cx, hask, hrx⟩ := hq3.ask hwf
        have HQ3 := Lib.hid hq3
        have HRX : Hid (D.rd w3 w2.heap.size w3.heap.size (dObjects (areaL zs t)) (.slice Ax mx cx)) := Lib.hid hrx
        have HL3 := Lib.hid (HL2.out.below hb3 hh2')
        have hh3' : hi' ≤ w3.heap.size := Nat.le_trans hh2' hb3.size
        have hlk := hask false
        rw [if_neg (by decide)] at hlk
        obtain ⟨y0, y1, y2, y3, -, -, yl0, yl1⟩ := HBX3.out.cells
        clear hq3 hb3 hask hrx z0 z1 z2 z3 f0 f1 l0 l1
        go_wp2_with fail
        refine (storeAll_any (areaL zs t) l Ax mx cx L nl cl w3 w2.heap.size w3.heap.size lo' hi' (Nat.le_refl _) hh3' HSA.out HLO.out HRX.out HL3.out).mono ?_
        rintro e w4 ⟨C, q4, d4, hql, hg4, hb4, rfl⟩
        have HB4 := Lib.hid (bel_tr HB3.out (Nat.le_refl _) hb4)
        have HBX4 := Lib.hid (HBX3.out.fresh hb4)
        have HJ4 := Lib.hid (HJ3.out.below hb4 hh3)
        have HI4 := Lib.hid (HI3.out.below hb4 hh3)
        have hh4 : hi ≤ w4.heap.size := Nat.le_trans hh3 hb4.size
        have hw34 := hb4.size
        have HC4 := Lib.hid hb4
        obtain ⟨k0, k1, k2, k3, -, -, l0', l1'⟩ := HBX4.out.cells
        have HO4 : Hid (Own w4 w3.heap.size (dObjects (newA ⟨os, zs⟩ t l)) (.slice C q4 d4)) := Lib.hid (by have := hg4.own; unfold newA dObjects; rw [← hql]; exact this)
        clear hg4 hb4 hql y0 y1 y2 y3 yl0 yl1 hlk
        rcases hp1 : (allP (areaL zs t) l).2 with _ | _
        · have hres := quaPut_p1 (q := ⟨os, zs⟩) HIN.out hp1
          clear hp1
          obtain ⟨w5, hup, hq5, hg5⟩ := QMap.put HQ3.out HC4.out (by unfold maxLen; omega) hwf hw23 HO4.out
          have HB5 := Lib.hid (HB4.out.grown hg5 HB4.out.size (fun j hj => by injection hj with hj; have := HB2.out.size; omega))
          have HBX5 := Lib.hid (HBX4.out.grown hg5 (by omega) (by omega))
          have hj5 : D.rd w5 lo hi (dObjects os) (.slice A n c) := HJ4.out.grown hg5 hh4 (fun j hj => by injection hj with hj; omega)
          have hi5 : D.rd w5 lo hi (dAreas zs) (.slice B m d) := HI4.out.grown hg5 hh4 (fun j hj => by injection hj with hj; omega)
          have HJ5 := Lib.hid hj5
          have HI5 := Lib.hid hi5
          have hh5 : hi ≤ w5.heap.size := Nat.le_trans hh4 hg5.size
          have HQ5 := Lib.hid hq5
          have hw25 : w2.heap.size ≤ w5.heap.size := by have := hg5.size; omega
          obtain ⟨u0, u1, u2, u3, -, -, ul0, ul1⟩ := HBX5.out.cells
          clear hq5 hg5 hj5 hi5
          clear k0 k1 k2 k3 l0' l1'
          have HRES := Lib.hid hres
          go_wp2_with fail
          refine (copyQua_any os zs A n c B m d w5 lo hi hh5 HV.out HJ5.out HI5.out).mono ?_
          rintro e w6 ⟨C6, n6, dc6, V6, m6, cV6, hq6, hb6, rfl⟩
          have HB6 := Lib.hid (bel_tr HB5.out (Nat.le_refl _) hb6)
          have HBX6 := Lib.hid (HBX5.out.fresh hb6)
          have HQ6 := Lib.hid hq6
          obtain ⟨g0, g1, g2, g3, gf0, gf1, gl0, gl1⟩ := HBX6.out.cells
          clear hq6 hb6
          go_wp2_with fail
          refine bodyPost_ret (v := .tuple #[.agg #[.slice C6 n6 dc6, .slice V6 m6 cV6], .bool false]) (by simp [results, Try.results16, go_sem, g2, g3, gf0, gf1]) rfl ?_
          exact ⟨C6, n6, dc6, V6, m6, cV6, by rw [HRES.out.1]; exact ((HQ6.out.set (by have := hrs2; omega) _ _).set (by have := hrs2; omega) _ _).low (HB5.out.size), (HB6.out.setCell hrw2 _).setCell hrw2 _, by rw [HRES.out.2]⟩
        · have HP1 := Lib.hid hp1
          clear hp1
          have HSN : Hid (∀ o ∈ newA ⟨os, zs⟩ t l, objB o = true) := Lib.hid ((storeB_iff _).1 (allP_store HSA.out HLO.out)).1
          go_wp2_with fail
          refine (storeAll_any os (newA ⟨os, zs⟩ t l) A n c C q4 d4 w4 lo hi w3.heap.size w4.heap.size hh4 (Nat.le_refl _) HSM.out HSN.out HJ4.out HO4.out.rd).mono ?_
          rintro e w5 ⟨C5, q5, d5, hql5, hg5, hb5, rfl⟩
          have HB5 := Lib.hid (bel_tr HB4.out (Nat.le_refl _) hb5)
          have HBX5 := Lib.hid (HBX4.out.fresh hb5)
          have HJ5 := Lib.hid (HJ4.out.below hb5 hh4)
          have HI5 := Lib.hid (HI4.out.below hb5 hh4)
          have hh5 : hi ≤ w5.heap.size := Nat.le_trans hh4 hb5.size
          have hw45 := hb5.size
          have HC5 := Lib.hid (bel_tr HC4.out (Nat.le_refl _) hb5)
          have HO5 := Lib.hid (HO4.out.fresh hb5)
          obtain ⟨v0, v1, v2, v3, -, -, vl0, vl1⟩ := HBX5.out.cells
          clear hg5 hb5 hql5 k0 k1 k2 k3 l0' l1'
          rcases hp2 : (allP os (newA ⟨os, zs⟩ t l)).2 with _ | _
          · have hres := quaPut_p2 (q := ⟨os, zs⟩) HIN.out hp2
            clear hp2
            obtain ⟨w7, hup, hq7, hg7⟩ := QMap.put HQ3.out HC5.out (by unfold maxLen; omega) hwf hw23 HO5.out
            have HB7 := Lib.hid (HB5.out.grown hg7 HB5.out.size (fun j hj => by injection hj with hj; have := HB2.out.size; omega))
            have HBX7 := Lib.hid (HBX5.out.grown hg7 (by omega) (by omega))
            have hj7 : D.rd w7 lo hi (dObjects os) (.slice A n c) := HJ5.out.grown hg7 hh5 (fun j hj => by injection hj with hj; omega)
            have hi7 : D.rd w7 lo hi (dAreas zs) (.slice B m d) := HI5.out.grown hg7 hh5 (fun j hj => by injection hj with hj; omega)
            have HJ7 := Lib.hid hj7
            have HI7 := Lib.hid hi7
            have hh7 : hi ≤ w7.heap.size := Nat.le_trans hh5 hg7.size
            have HQ7 := Lib.hid hq7
            have hw27 : w2.heap.size ≤ w7.heap.size := by have := hg7.size; omega
            obtain ⟨u0, u1, u2, u3, -, -, ul0, ul1⟩ := HBX7.out.cells
            clear hq7 hg7 hj7 hi7
            clear v0 v1 v2 v3 vl0 vl1
            have HRES := Lib.hid hres
            go_wp2_with fail
            refine (copyQua_any os zs A n c B m d w7 lo hi hh7 HV.out HJ7.out HI7.out).mono ?_
            rintro e w6 ⟨C6, n6, dc6, V6, m6, cV6, hq6, hb6, rfl⟩
            have HB6 := Lib.hid (bel_tr HB7.out (Nat.le_refl _) hb6)
            have HBX6 := Lib.hid (HBX7.out.fresh hb6)
            have HQ6 := Lib.hid hq6
            obtain ⟨g0, g1, g2, g3, gf0, gf1, gl0, gl1⟩ := HBX6.out.cells
            clear hq6 hb6
            go_wp2_with fail
            refine bodyPost_ret (v := .tuple #[.agg #[.slice C6 n6 dc6, .slice V6 m6 cV6], .bool false]) (by simp [results, Try.results16, go_sem, g2, g3, gf0, gf1]) rfl ?_
            exact ⟨C6, n6, dc6, V6, m6, cV6, by rw [HRES.out.1]; exact ((HQ6.out.set (by have := hrs2; omega) _ _).set (by have := hrs2; omega) _ _).low (HB7.out.size), (HB6.out.setCell hrw2 _).setCell hrw2 _, by rw [HRES.out.2]⟩
          · have HP2 := Lib.hid hp2
            have hne' : newA ⟨os, zs⟩ t l ≠ [] := newA_ne HP1.out HLN.out
            have HMD := Lib.hid (mapA_set HAA.out HZT.out HT.out (newA ⟨os, zs⟩ t l) hne')
            have hov := setA_over HAA.out t (newA ⟨os, zs⟩ t l) hne' HZ4.out
            clear hp2
            obtain ⟨w7, hup, hq7, hg7⟩ := QMap.put HQ3.out HC5.out (by unfold maxLen; omega) hwf hw23 HO5.out
            have HB7 := Lib.hid (HB5.out.grown hg7 HB5.out.size (fun j hj => by injection hj with hj; have := HB2.out.size; omega))
            have HBX7 := Lib.hid (HBX5.out.grown hg7 (by omega) (by omega))
            have hj7 : D.rd w7 lo hi (dObjects os) (.slice A n c) := HJ5.out.grown hg7 hh5 (fun j hj => by injection hj with hj; omega)
            have hi7 : D.rd w7 lo hi (dAreas zs) (.slice B m d) := HI5.out.grown hg7 hh5 (fun j hj => by injection hj with hj; omega)
            have HJ7 := Lib.hid hj7
            have HI7 := Lib.hid hi7
            have hh7 : hi ≤ w7.heap.size := Nat.le_trans hh5 hg7.size
            have HQ7 := Lib.hid hq7
            have hw27 : w2.heap.size ≤ w7.heap.size := by have := hg7.size; omega
            obtain ⟨u0, u1, u2, u3, -, -, ul0, ul1⟩ := HBX7.out.cells
            clear hq7 hg7 hj7 hi7
            have hsup : ∀ i, ((fun j => if j = t then some (newA ⟨os, zs⟩ t l) else areaO zs j) i).isSome = true → txnB i = true := fun i hi => by
              dsimp only at hi
              by_cases e : i = t
              · rw [e]; exact HT.out
              · rw [if_neg e] at hi; exact areaO_txn HV.out hi
            have hlen := HQ7.out.len hsup 3
            rw [HMD.out] at hlen
            obtain ⟨ql, hqle⟩ : ∃ ql, ql = (setA zs t (newA ⟨os, zs⟩ t l)).length := ⟨_, rfl⟩
            rw [← hqle] at hlen hov
            have HSUP := Lib.hid hsup
            clear hsup hqle hne' v0 v1 v2 v3 vl0 vl1
            by_cases h4 : 4 < ql
            · have h43 := hov.1 h4
              have hres := quaPut_p3 (q := ⟨os, zs⟩) HIN.out h43.1 h43.2
              have h4i : (4 : Int) < (ql : Int) := by omega
              clear hov h43 h4
              have HRES := Lib.hid hres
              go_wp2_with fail
              refine (copyQua_any os zs A n c B m d w7 lo hi hh7 HV.out HJ7.out HI7.out).mono ?_
              rintro e w6 ⟨C6, n6, dc6, V6, m6, cV6, hq6, hb6, rfl⟩
              have HB6 := Lib.hid (bel_tr HB7.out (Nat.le_refl _) hb6)
              have HBX6 := Lib.hid (HBX7.out.fresh hb6)
              have HQ6 := Lib.hid hq6
              obtain ⟨g0, g1, g2, g3, gf0, gf1, gl0, gl1⟩ := HBX6.out.cells
              clear hq6 hb6
              go_wp2_with fail
              refine bodyPost_ret (v := .tuple #[.agg #[.slice C6 n6 dc6, .slice V6 m6 cV6], .bool false]) (by simp [results, Try.results16, go_sem, g2, g3, gf0, gf1]) rfl ?_
              exact ⟨C6, n6, dc6, V6, m6, cV6, by rw [HRES.out.1]; exact ((HQ6.out.set (by have := hrs2; omega) _ _).set (by have := hrs2; omega) _ _).low (HB7.out.size), (HB6.out.setCell hrw2 _).setCell hrw2 _, by rw [HRES.out.2]⟩
            · have HRES := Lib.hid (quaPut_yes (q := ⟨os, zs⟩) HIN.out HP1.out HP2.out (fun h => h4 (hov.2 h)))
              have h4i : ¬ ((4 : Int) < (ql : Int)) := by omega
              clear hov h4
              go_wp2_with fail
              refine (copyObjs_row os A n c w7 lo hi hh7 hn16 HLK.out HJ7.out).mono ?_
              rintro e w8 ⟨C8, dc8, hg8, hb8, rfl⟩
              have HO8 : Hid (Own w8 w7.heap.size (dObjects os) (.slice C8 n dc8)) := Lib.hid (by have := hg8.own; unfold dObjects; rw [← HN.out]; exact this)
              have HB8 := Lib.hid (bel_tr HB7.out (Nat.le_refl _) hb8)
              have HBX8 := Lib.hid (HBX7.out.fresh hb8)
              have HP8 := Lib.hid (QPre.after HQ7.out hb8 HO8.out hw27)
              have hw28 : w2.heap.size ≤ w8.heap.size := Nat.le_trans hw27 hb8.size
              clear hg8 hb8 u0 u1 u2 u3 ul0 ul1 hlen hup
              go_wp2_with fail
              refine (quaOf_any os _ C8 n dc8 w2.heap.size b (m + 1) w8 HSUP.out hw28 HP8.out).mono ?_
              rintro e w6 ⟨va, hq6, hb6, rfl⟩
              have HB6 := Lib.hid (bel_tr HB8.out (Nat.le_refl _) hb6)
              have HBX6 := Lib.hid (HBX8.out.fresh hb6)
              obtain ⟨vs6, hrow6⟩ := hq6.row
              obtain ⟨V, cV, rfl, -, -, -⟩ := Rd.of_own hrow6
              obtain ⟨q, hq⟩ : ∃ q, q = (mapA (fun j => if j = t then some (newA ⟨os, zs⟩ t l) else areaO zs j)).length := ⟨_, rfl⟩
              have HQ6' : Hid (QuaG w6 w2.heap.size ⟨os, setA zs t (newA ⟨os, zs⟩ t l)⟩ (.slice C8 n dc8) (.slice V q cV)) := by
                have h1 := hq6
                rw [← hq] at h1
                have e : (⟨os, mapA (fun j => if j = t then some (newA ⟨os, zs⟩ t l) else areaO zs j)⟩ : QuaD) = ⟨os, setA zs t (newA ⟨os, zs⟩ t l)⟩ := by rw [HMD.out]
                rw [e] at h1
                exact Lib.hid h1
              rw [← hq]
              obtain ⟨k0, k1, k2, k3, f0, f1, l0', l1'⟩ := HBX6.out.cells
              clear hq6 hb6 hrow6 hq
              go_wp2_with fail
              refine bodyPost_ret (v := .tuple #[.agg #[.slice C8 n dc8, .slice V q cV], .bool true]) (by simp [results, Try.results16, go_sem, k2, k3, f0, f1]) rfl ?_
              exact ⟨C8, n, dc8, V, q, cV, by rw [HRES.out.1]; exact ((HQ6'.out.set (by omega) _ _).set (by omega) _ _).low (by have := HB2.out.size; omega), (HB6.out.setCell hrw2 _).setCell hrw2 _, by rw [HRES.out.2]⟩

end Go.Proofs.Ytgpjcmplnigmcaa
